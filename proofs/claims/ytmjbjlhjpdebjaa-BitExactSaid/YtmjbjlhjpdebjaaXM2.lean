/- A small machine over plain data: what each operation does, what code does. Definitions alone. -/
import Derived.Test.YtmjbjlhjpdebjaaXM1
namespace Go.Proofs.Ytmjbjlhjpdebjaa.Mini
open Go Go.RowKit
noncomputable section

/-! ### Operations -/
def fieldOf (P : Program) (t : TypeId) (f : Nat) : Option (Nat × TypeId) := match P.underlying t with
  | some (.struct fs) => match fs[f]? with
    | some x => some (x.offset, x.type)
    | none => none
  | _ => none

def takeV (agg : Bool) (n : Nat) (l : List AV) : Option AV :=
  bif agg then (bif Nat.ble n l.length then some (.agg (l.take n)) else none)
  else match l with
    | v :: _ => some v
    | [] => none

/-- A value of that type, out of cells' values. -/
def takeT (P : Program) (t : TypeId) (l : List AV) : Option AV := match shapeOf P t with
  | some (a, n) => takeV a n l
  | none => none

def putL (l : List AV) (off : Nat) (vs : List AV) : Option (List AV) :=
  bif Nat.ble (off + vs.length) l.length then some (l.take off ++ vs ++ l.drop (off + vs.length)) else none

/-- Numbers of one kind. -/
def intsOf (k : IntKind) : List AV → Option (List Int)
  | [] => some []
  | .int k' n :: l => if k' = k then match intsOf k l with
    | some ns => some (n :: ns)
    | none => none
    else none
  | _ => none

/-- A number out of an array of numbers. -/
def arrI (P : Program) (T t : TypeId) (l : List AV) (off : Nat) : Option Eff := match P.underlying T, P.underlying t, shapeOf P t with
  | some (.array _ _), some (.int k), some (false, 1) => match intsOf k l with
    | some ns => some (wh ((off : Int) < (ns.length : Int)) (.out ⟨.int k (ns.getD off 0), []⟩))
    | none => none
  | _, _, _ => none

def loadV (P : Program) (tab : Tab) (t : TypeId) : AV → Option Eff
  | .ptr id off => match tab id with
    | some (.cells T l) => match arrI P T t l off with
      | some e => some e
      | none => match takeT P t (l.drop off) with
        | some v => ok v
        | none => none
    | _ => none
  | .eptr id j off => match tab id with
    | some (.row _ k _ xs) => match takeT P t ((leavesOf k (xs.getD j (dflt k))).drop off) with
      | some v => ok v
      | none => none
    | some (.fro k _ xs) => match takeT P t ((leavesOf k (xs.getD j (dflt k))).drop off) with
      | some v => ok v
      | none => none
    | _ => none
  | .iptr l => match takeT P t l with
    | some v => ok v
    | none => none
  | _ => none

def storeV (P : Program) (tab : Tab) (t : TypeId) (a v : AV) : Option Eff :=
  bif Nat.beq v.leaves.length (P.cellsOf t) && (P.info? t).isSome && v.leaves.all leafB then
    match a with
    | .ptr id off => match tab id with
      | some (.cells T l) => match putL l off v.leaves with
        | some l => some (.out ⟨.tup [], [(id, some (.cells T l))]⟩)
        | none => none
      | _ => none
    | .eptr id j off => match tab id with
      | some (.row o k T xs) => match frz tab v.leaves, putL (leavesOf k (xs.getD j (dflt k))) off (v.leaves.map (snap tab)) with
        | some c, some l => match toElAll k l with
          | some x => bif c.any (fun p => Nat.beq p.1 id) then none else some (.out ⟨.tup [], c ++ [(id, some (.row o k T (xs.set j x)))]⟩)
          | none => none
        | _, _ => none
      | _ => none
    | _ => none
  else none

def fill (place : Nat → Option (Nat × Nat)) : List AV → List (Nat × AV) → Option (List AV)
  | l, [] => some l
  | l, (i, v) :: r => match place i with
    | some (off, n) => bif Nat.beq v.leaves.length n && v.leaves.all leafB then
        match putL l off v.leaves with
        | some l => fill place l r
        | none => none
      else none
    | none => none

def buildV (P : Program) (t : TypeId) (parts : List (Nat × AV)) : Option Eff :=
  match zeroLeaves P t, P.underlying t with
  | some z, some (.struct fs) => bif !fs.all (fun f => (P.info? f.type).isSome) then none else match fill (fun i => match fs[i]? with
      | some f => some (f.offset, P.cellsOf f.type)
      | none => none) z parts with
    | some l => ok (.agg l)
    | none => none
  | some z, some (.array _ e) => bif !(P.info? e).isSome then none else match fill (fun i => some (i * P.cellsOf e, P.cellsOf e)) z parts with
    | some l => ok (.agg l)
    | none => none
  | _, _ => none

/-- The elements of a literal. -/
def lits (k : Kd) (tab : Tab) : List (El k) → List (Nat × AV) → Option (List (El k) × Chg)
  | xs, [] => some (xs, [])
  | xs, (i, v) :: r => bif !v.leaves.all leafB then none else match toElAll k (v.leaves.map (snap tab)), frz tab v.leaves with
    | some x, some c => match lits k tab (xs.set i x) r with
      | some (xs, d) => some (xs, c ++ d)
      | none => none
    | _, _ => none

def buildSliceV (P : Program) (tab : Tab) (fresh : Nat) (t : TypeId) (len : Nat) (parts : List (Nat × AV)) : Option Eff :=
  match P.underlying t with
  | some (.slice e) => match kd P e, zeroLeaves P e with
    | some k, some z => match toElAll k z with
      | some z => bif Nat.ble (len * P.cellsOf e) 16777216 && parts.all (fun p => Nat.blt p.1 len) then
          match lits k tab (List.replicate len z) parts with
          | some (xs, c) => some (.out ⟨.own fresh, c ++ [(fresh, some (.row true k e xs))]⟩)
          | none => none
        else none
      | none => none
    | _, _ => none
  | _ => none

def makeSliceV (P : Program) (fresh : Nat) (t : TypeId) (a b : AV) : Option Eff :=
  match P.underlying t, a, b with
  | some (.slice e), .int _ l, .int _ c => match kd P e, zeroLeaves P e with
    | some k, some z => match toElAll k z with
      | some z => some (wh (0 ≤ l) (wh (l ≤ c) (wh (c * (P.bytesOf e : Nat) ≤ 140737488355328) (wh (c ≤ 9223372036854775807) (.out ⟨.own fresh, [(fresh, some (.row true k e (List.replicate l.toNat z)))]⟩)))))
      | none => none
    | _, _ => none
  | _, _, _ => none

def asI : Option AV → Option (Option Int)
  | none => some none
  | some (.int _ n) => some (some n)
  | _ => none

def loOf : Option Int → Int
  | none => 0
  | some n => n

def cut {α : Type} (xs : List α) (lo hi : Option Int) : List α := match lo, hi with
  | none, none => xs
  | some l, none => xs.drop l.toNat
  | none, some h => xs.take h.toNat
  | some l, some h => (xs.take h.toNat).drop l.toNat

/-- The bounds of a cut of something so long; then what follows. -/
def bounds (n : Nat) (lo hi : Option Int) (e : Eff) : Eff := match lo, hi with
  | none, none => e
  | some l, none => wh (0 ≤ l) (wh (l ≤ (n : Int)) e)
  | none, some h => wh (0 ≤ h) (wh (h ≤ (n : Int)) e)
  | some l, some h => wh (0 ≤ h) (wh (h ≤ (n : Int)) (wh (0 ≤ l) (wh (l ≤ h) e)))

def cutLen (n : Nat) (lo hi : Option Int) : Nat := match lo, hi with
  | none, none => n
  | some l, none => n - l.toNat
  | none, some h => h.toNat
  | some l, some h => h.toNat - l.toNat

def sliceV (P : Program) (tab : Tab) (t : TypeId) (x : AV) (lo hi : Option AV) : Option Eff :=
  match P.underlying t, asI lo, asI hi with
  | some (.slice e), some lo, some hi => match kd P e with
    | none => none
    | some ke => match x with
      | .row k xs => if ke = k then some (bounds xs.length lo hi (.out ⟨.row k (cut xs lo hi), []⟩)) else none
      | .own id => match tab id with
        | some (.row _ k _ xs) => if ke = k then some (bounds xs.length lo hi (.out ⟨.sl id (loOf lo).toNat (cutLen xs.length lo hi), []⟩)) else none
        | some (.fro k _ xs) => if ke = k then some (bounds xs.length lo hi (.out ⟨.sl id (loOf lo).toNat (cutLen xs.length lo hi), []⟩)) else none
        | _ => none
      | .sl id off len => match tab id with
        | some (.row _ k _ _) => if ke = k then some (bounds len lo hi (.out ⟨.sl id ((loOf lo).toNat + off) (cutLen len lo hi), []⟩)) else none
        | some (.fro k _ _) => if ke = k then some (bounds len lo hi (.out ⟨.sl id ((loOf lo).toNat + off) (cutLen len lo hi), []⟩)) else none
        | _ => none
      | .nils => some (bounds 0 lo hi (.out ⟨.nils, []⟩))
      | _ => none
  | some .string, some lo, some hi => match x with
    | .str s => some (bounds s.size lo hi (.out ⟨.str (s.extract (loOf lo).toNat ((loOf lo).toNat + cutLen s.size lo hi)), []⟩))
    | _ => none
  | _, _, _ => none

/-- With a bound for what may be appended: of what is read alone. -/
def slice3V (P : Program) (t : TypeId) (x lo hi m : AV) : Option Eff :=
  match P.underlying t, lo, hi, m with
  | some (.slice e), .int _ l, .int _ h, .int _ m => match kd P e, x with
    | some ke, .row k xs => if ke = k then some (wh (0 ≤ m) (wh (m ≤ (xs.length : Int)) (wh (0 ≤ h) (wh (h ≤ m) (wh (0 ≤ l) (wh (l ≤ h) (.out ⟨.row k (cut xs (some l) (some h)), []⟩))))))) else none
    | _, _ => none
  | _, _, _, _ => none

def fieldAddrV (P : Program) (t : TypeId) (x : AV) (f : Nat) : Option Eff :=
  match fieldOf P t f with
  | some (off, ft) => bif Nat.blt 0 (P.cellsOf ft) then match x with
    | .ptr id o => ok (.ptr id (o + off))
    | .eptr id j o => ok (.eptr id j (o + off))
    | .iptr l => ok (.iptr (l.drop off))
    | _ => none
    else none
  | none => none

def fieldV (P : Program) (t : TypeId) (x : AV) (f : Nat) : Option Eff :=
  match fieldOf P t f, x with
  | some (off, ft), .agg l => match takeT P ft (l.drop off) with
    | some v => ok v
    | none => none
  | _, _ => none

def indexAddrV (P : Program) (tab : Tab) (t : TypeId) (x i : AV) : Option Eff :=
  match P.underlying t, i with
  | some (.slice e), .int _ i => match kd P e with
    | none => none
    | some ke => match x with
      | .row k xs => if ke = k then some (wh (0 ≤ i) (wh (i < (xs.length : Int)) (.out ⟨.iptr (leavesOf k (xs.getD i.toNat (dflt k))), []⟩))) else none
      | .own id => match tab id with
        | some (.row _ k _ xs) => if ke = k then some (wh (0 ≤ i) (wh (i < (xs.length : Int)) (.out ⟨.eptr id i.toNat 0, []⟩))) else none
        | some (.fro k _ xs) => if ke = k then some (wh (0 ≤ i) (wh (i < (xs.length : Int)) (.out ⟨.eptr id i.toNat 0, []⟩))) else none
        | _ => none
      | .sl id off len => match tab id with
        | some (.row _ k _ _) => if ke = k then some (wh (0 ≤ i) (wh (i < (len : Int)) (.out ⟨.eptr id (i.toNat + off) 0, []⟩))) else none
        | some (.fro k _ _) => if ke = k then some (wh (0 ≤ i) (wh (i < (len : Int)) (.out ⟨.eptr id (i.toNat + off) 0, []⟩))) else none
        | _ => none
      | _ => none
  | some (.array n e), .int _ i => match x with
    | .ptr id o => match tab id with
      | some (.cells _ _) => bif (P.info? e).isSome then some (wh (0 ≤ i) (wh (i < (n : Int)) (.out ⟨.ptr id (o + i.toNat * P.cellsOf e), []⟩))) else none
      | _ => none
    | _ => none
  | _, _ => none

def indexV (P : Program) (t : TypeId) (x i : AV) : Option Eff :=
  match P.underlying t, x, i with
  | some (.array n e), .agg l, .int _ i => match P.underlying e, shapeOf P e with
    | some (.int k), some (false, 1) => match intsOf k l with
      | some ns => bif Nat.beq ns.length n then some (wh (0 ≤ i) (wh (i < (n : Int)) (.out ⟨.int k (ns.getD i.toNat 0), []⟩))) else none
      | none => none
    | _, _ => match takeT P e (l.drop (i.toNat * P.cellsOf e)) with
      | some v => some (wh (0 ≤ i) (wh (i < (n : Int)) (.out ⟨v, []⟩)))
      | none => none
  | some .string, .str s, .int _ i => some (wh (0 ≤ i) (.bind UInt8 (s[i.toNat]?) fun b => ⟨.int .u8 (b.toNat : Int), []⟩))
  | _, _, _ => none

def Blk.isRow : Blk → Bool
  | .cells _ _ => false
  | _ => true

def lenV (P : Program) (tab : Tab) (ty : TypeId) (x : AV) : Option Eff := match P.underlying ty with
  | some (.slice _) => (match x with
    | .row _ xs => ok (.int .i64 (xs.length : Int))
    | .own id => match tab id with
      | some (.row _ _ _ xs) => ok (.int .i64 (xs.length : Int))
      | some (.fro _ _ xs) => ok (.int .i64 (xs.length : Int))
      | _ => none
    | .sl id _ n => match tab id with
      | some b => bif b.isRow then ok (.int .i64 (n : Int)) else none
      | none => none
    | .nils => ok (.int .i64 0)
    | _ => none)
  | some .string => (match x with
    | .str s => ok (.int .i64 (s.size : Int))
    | _ => none)
  | _ => none

/-- What is appended, copied: its elements. -/
def elemsV (tab : Tab) (k : Kd) (x : AV) : Option (List (El k)) :=
  match snap tab x with
  | .row k' xs => if h : k' = k then some (castR h xs) else none
  | .nils => some []
  | _ => none

def appendV (P : Program) (tab : Tab) (fresh : Nat) (t : TypeId) (s x : AV) : Option Eff :=
  match P.underlying t with
  | some (.slice e) => match kd P e with
    | some k => bif !Nat.blt 0 (P.bytesOf e) then none else match elemsV tab k x, zeroLeaves P e with
      | some ys, some _ => match s with
        | .nils => some (wh (((ys.length * P.bytesOf e : Nat) : Int) ≤ 140737488355328) (.out ⟨.own fresh, [(fresh, some (.row true k e ys))]⟩))
        | .own id => match tab id with
          | some (.row true k' T xs) => if h : k' = k then bif Nat.beq T e then
              let zs : List (El k) := castR h xs
              some (wh ((((zs.length + ys.length) * P.bytesOf e : Nat) : Int) ≤ 140737488355328) (.out ⟨.own fresh, [(id, none), (fresh, some (.row true k e (zs ++ ys)))]⟩))
            else none else none
          | _ => none
        | .sl id off len => match tab id with
          | some (.row true k' T xs) => if h : k' = k then bif Nat.beq T e then
              let zs : List (El k) := ((castR h xs : List (El k)).drop off).take len
              some (wh ((((len + ys.length) * P.bytesOf e : Nat) : Int) ≤ 140737488355328) (.out ⟨.own fresh, [(id, none), (fresh, some (.row true k e (zs ++ ys)))]⟩))
            else none else none
          | _ => none
        | _ => none
      | _, _ => none
    | none => none
  | _ => none

/-- So many zero elements are appended. -/
def appendZ (P : Program) (tab : Tab) (fresh : Nat) (t : TypeId) (s : AV) (n : Int) : Option Eff :=
  match P.underlying t with
  | some (.slice e) => match kd P e with
    | some k => bif !(Nat.blt 0 (P.bytesOf e) && Nat.blt 0 k.sz) then none else match zeroLeaves P e with
      | some z => match toElAll k z with
        | some z => match s with
          | .nils => some (wh (0 ≤ n) (wh (n * (P.bytesOf e : Nat) ≤ 140737488355328) (.out ⟨.own fresh, [(fresh, some (.row true k e (List.replicate n.toNat z)))]⟩)))
          | .own id => match tab id with
            | some (.row true k' T xs) => if h : k' = k then bif Nat.beq T e then
                let zs : List (El k) := castR h xs
                some (wh (0 ≤ n) (wh (((zs.length : Int) + n) * (P.bytesOf e : Nat) ≤ 140737488355328) (.out ⟨.own fresh, [(id, none), (fresh, some (.row true k e (zs ++ List.replicate n.toNat z)))]⟩)))
              else none else none
            | _ => none
          | .sl id off len => match tab id with
            | some (.row true k' T xs) => if h : k' = k then bif Nat.beq T e then
                let zs : List (El k) := ((castR h xs : List (El k)).drop off).take len
                some (wh (0 ≤ n) (wh (((len : Int) + n) * (P.bytesOf e : Nat) ≤ 140737488355328) (.out ⟨.own fresh, [(id, none), (fresh, some (.row true k e (zs ++ List.replicate n.toNat z)))]⟩)))
              else none else none
            | _ => none
          | _ => none
        | none => none
      | none => none
    | none => none
  | _ => none

def copyV (P : Program) (tab : Tab) (t : TypeId) (d x : AV) : Option Eff :=
  match P.underlying t with
  | some (.slice e) => match kd P e with
    | some k => match elemsV tab k x with
      | some ys => match d with
        | .own id => match tab id with
          | some (.row o k' T xs) => if h : k' = k then
              let zs : List (El k) := castR h xs
              some (.out ⟨.int .i64 ((min ys.length zs.length : Nat) : Int), [(id, some (.row o k T (splice zs 0 (ys.take zs.length))))]⟩)
            else none
          | _ => none
        | .sl id off len => match tab id with
          | some (.row o k' T xs) => if h : k' = k then
              let zs : List (El k) := castR h xs
              some (.out ⟨.int .i64 ((min ys.length len : Nat) : Int), [(id, some (.row o k T (splice zs off (ys.take len))))]⟩)
            else none
          | _ => none
        | _ => none
      | none => none
    | none => none
  | _ => none

/-- Bytes, told as numbers, as a string. -/
def strOf (xs : List Int) : ByteArray := ⟨(xs.map fun n => UInt8.ofNat n.toNat).toArray⟩

def convV (P : Program) (tab : Tab) (src dst : TypeId) (x : AV) : Option Eff :=
  match P.underlying src, P.underlying dst, x with
  | some (.int _), some (.int k), .int _ n => ok (.int k (wr k n))
  | some .string, some .string, .str s => ok (.str s)
  | some (.slice e), some .string, x => match P.underlying e with
    | some (.int .u8) => (match elemsV tab (.int .u8) x with
      | some xs => ok (.str (strOf xs))
      | none => none)
    | _ => none
  | some (.slice e), some (.slice _), .own id => match P.underlying e, tab id with
    | some (.int .u8), some (.row true (.int .u8) _ xs) => bif Nat.beq src dst && !xs.isEmpty then some (.out ⟨.row (.int .u8) xs, [(id, none)]⟩) else none
    | _, _ => none
  | _, _, _ => none

def minV (f : Int → Int → Int) : AV → List AV → Option AV
  | v, [] => some v
  | .int k x, .int k' y :: l => if k = k' then minV f (.int k (f x y)) l else none
  | _, _ => none

def aop (E : Env) (op : Op) (r : Operand → AV) (tab : Tab) (fresh : Nat) : Option Eff :=
  match op with
  | .move x => ok (r x)
  | .assign x => ok (r x)
  | .pick c a b => match r c with
    | .bool c => (match r a, r b with
      | .bool x, .bool y => ok (.bool (bif c then x else y))
      | x, y => bif c then ok x else ok y)
    | _ => none
  | .alloc t => match zeroLeaves E.P t with
    | some l => some (.out ⟨.ptr fresh 0, [(fresh, some (.cells t l))]⟩)
    | none => none
  | .box t x => bif (r x).leaves.all leafB then some (.out ⟨.ptr fresh 0, [(fresh, some (.cells t (r x).leaves))]⟩) else none
  | .build t parts => buildV E.P t (parts.toList.map fun p => (p.1, r p.2))
  | .buildSlice t len parts => buildSliceV E.P tab fresh t len (parts.toList.map fun p => (p.1, r p.2))
  | .load t a => loadV E.P tab t (r a)
  | .store t a v => storeV E.P tab t (r a) (r v)
  | .nilCheck x => match r x with
    | .ptr id o => ok (.ptr id o)
    | .eptr id j o => ok (.eptr id j o)
    | .iptr l => ok (.iptr l)
    | .fn (.func f) c => ok (.fn (.func f) c)
    | .fn (.yield 0) [] => ok (.fn (.yield 0) [])
    | _ => none
  | .binOp op t x y _ => binV E.P t op (r x) (r y)
  | .unOp op _ x => unV op (r x)
  | .convert s d x => convV E.P tab s d (r x)
  | .makeFunc f first caps => match f with
    | .func g => bif first.isEmpty then ok (.fn (.func g) (caps.toList.map r)) else none
    | _ => none
  | .makeSlice t l c => makeSliceV E.P fresh t (r l) (r c)
  | .slice t x lo hi m => match m with
    | none => sliceV E.P tab t (r x) (lo.map r) (hi.map r)
    | some m => match lo, hi with
      | some lo, some hi => slice3V E.P t (r x) (r lo) (r hi) (r m)
      | _, _ => none
  | .fieldAddr t x f => fieldAddrV E.P t (r x) f
  | .field t x f => fieldV E.P t (r x) f
  | .indexAddr t x i => indexAddrV E.P tab t (r x) (r i)
  | .index t x i => indexV E.P t (r x) (r i)
  | .extract x i => match r x with
    | .tup l => match l[i]? with
      | some v => ok v
      | none => none
    | _ => none
  | .call { callee := .builtin b, args, argTypes } => match b, args.toList, argTypes.toList with
    | .len, [x], [t] => lenV E.P tab t (r x)
    | .append, [s, x], [t, u] => match E.P.underlying u with
      | some (.slice _) => appendV E.P tab fresh t (r s) (r x)
      | some (.int _) => match r x with
        | .int _ n => appendZ E.P tab fresh t (r s) n
        | _ => none
      | _ => none
    | .copy, [d, x], [t, _] => copyV E.P tab t (r d) (r x)
    | .min, x :: l, _ => match minV mn (r x) (l.map r) with
      | some v => ok v
      | none => none
    | .max, x :: l, _ => match minV mx (r x) (l.map r) with
      | some v => ok v
      | none => none
    | _, _, _ => none
  | .call { callee := .value f, args, .. } => match r f with
    | .fn (.func g) caps => match E.G (gkey g (args.toList.map r ++ caps)) with
      | some s => bif Nat.beq (gOf (gkey g (args.toList.map r ++ caps))) g then callV E.k s (args.toList.map r ++ caps) tab fresh else none
      | none => match E.GB g with
        | some s => callB E.k s (args.toList.map r ++ caps) tab
        | none => none
    | _ => none
  | _ => none

/-! ### Regions -/
/-- Does it look at the table? -/
def touches (E : Env) : Op → Bool
  | .move _ | .assign _ | .pick .. | .alloc _ | .box .. | .build .. | .nilCheck _ | .binOp .. | .unOp .. | .makeFunc .. | .makeSlice .. | .fieldAddr .. | .field .. | .index .. | .extract .. => false
  | .convert s _ _ => match E.P.underlying s with
    | some (.slice _) => true
    | _ => false
  | .buildSlice t _ _ => match E.P.underlying t with
    | some (.slice e) => match kd E.P e with
      | some k => k.mem
      | none => true
    | _ => true
  | .call { callee := .builtin .min, .. } | .call { callee := .builtin .max, .. } => false
  | .call { callee := .value (.func g), .. } => match E.G g with
    | some s => s.ps.any Sh.alias || s.alias
    | none => true
  | _ => true

/-- May it change blocks that were there? -/
def changes (E : Env) : Op → Bool
  | .store .. => true
  | .convert s _ _ => match E.P.underlying s with
    | some (.slice _) => true
    | _ => false
  | .buildSlice t _ _ => match E.P.underlying t with
    | some (.slice e) => match kd E.P e with
      | some k => k.mem
      | none => true
    | _ => true
  | .call { callee := .builtin .append, .. } | .call { callee := .builtin .copy, .. } => true
  | .call { callee := .value (.func g), .. } => match E.G g with
    | some s => s.alias
    | none => true
  | .call { callee := .value _, .. } => true
  | _ => false

def isStore : Op → Bool
  | .store .. => true
  | _ => false

def isLoad : Op → Bool
  | .load .. | .slice .. | .indexAddr .. => true
  | .call { callee := .builtin .len, .. } => true
  | _ => false

/-- Are rows changed here, by others than stores? -/
def mixB (E : Env) (ops : Array Oper) : Bool := ops.toList.any fun o => changes E o.op && !isStore o.op

/-- The operations that come ahead of one, as bits. -/
def maskOf (acc : List Nat) (o : Oper) : Nat := o.after.toList.foldl (fun s e => bif Region.binds .any e then s ||| 2 ^ e.on ||| acc.getD e.on 0 else s) 0

def masks : List Oper → List Nat → List Nat
  | [], acc => acc
  | o :: l, acc => masks l (acc ++ [maskOf acc o])

def mask (ops : Array Oper) (i : Nat) : Nat := (masks ops.toList []).getD i 0

/-- Are rows changed by operations that are in no order with this one? -/
def freeOf (E : Env) (ops : Array Oper) (i : Nat) : Bool := (List.range ops.size).any fun m => match ops[m]? with
  | some x => changes E x.op && !isStore x.op && !Nat.beq m i && !(mask ops i).testBit m && !(mask ops m).testBit i
  | none => false

def isLit : Op → Bool
  | .buildSlice .. => true
  | _ => false

/-- A literal beside others that look about: it may change nothing that was there. -/
def lower (E : Env) (ops : Array Oper) (i : Nat) (op : Op) : Bool := isLit op && (List.range ops.size).any fun m => match ops[m]? with
  | some x => touches E x.op && !Nat.beq m i && !(mask ops i).testBit m && !(mask ops m).testBit i
  | none => false

def chgs (E : Env) (ops : Array Oper) (i : Nat) (op : Op) : Bool := changes E op && !lower E ops i op

/-- Then what looks about looks at cells alone. -/
def peeks (E : Env) (ops : Array Oper) (i : Nat) (op : Op) : Bool := (isLoad op && freeOf E ops i) || (lower E ops i op && mixB E ops)

/-- May y, which stands at j, see what x changes, which stands at i? -/
def meets (E : Env) (ops : Array Oper) (i j : Nat) (x y : Op) : Bool := chgs E ops i x && touches E y && !(peeks E ops j y && !isStore x)

def apartB (E : Env) (ops : Array Oper) (i j : Nat) (x y : Oper) : Bool :=
  Oper.apart ops x y && !meets E ops i j x.op y.op && !meets E ops j i y.op x.op

/-- Any two operations that are in no order are apart. -/
def drawB (E : Env) (ops : Array Oper) : Bool :=
  let b := masks ops.toList []
  (List.range ops.size).all fun j => match ops[j]? with
    | some y => y.after.all (fun e => !Region.binds .any e || Nat.blt e.on j) && (List.range j).all fun i => (b.getD j 0).testBit i || match ops[i]? with
      | some x => apartB E ops i j x y
      | none => false
    | none => false

/-- What operation i of a region that draws its order may see: what was there, and what is made ahead of it. -/
def view (ops : Array Oper) (base i : Nat) (tab : Tab) : Tab := fun id =>
  bif Nat.blt id base || (mask ops i).testBit ((id - base) / room) then tab id else none

/-- The cells alone. -/
def cellsOnly (tab : Tab) : Tab := fun id => match tab id with
  | some (.cells T l) => some (.cells T l)
  | _ => none

def vwOf (E : Env) (draw : Bool) (op : Op) (ops : Array Oper) (base i : Nat) (tab : Tab) : Tab := bif draw then (bif touches E op then (bif peeks E ops i op then cellsOnly (view ops base i tab) else view ops base i tab) else fun _ => none) else tab

def noCells : Option Blk → Bool
  | some (.cells _ _) => false
  | _ => true

/-- It turns rows alone. -/
def rowsChg (tab : Tab) (c : Chg) : Bool := c.all fun p => noCells (tab p.1) && noCells p.2

/-- It turns nothing that it may not see. -/
def seenOnly (ops : Array Oper) (base i : Nat) (c : Chg) : Bool := c.all fun p => Nat.blt p.1 base || Nat.beq ((p.1 - base) / room) i || (mask ops i).testBit ((p.1 - base) / room)

structure St where
  n : Nat
  tm : Nat → AV
  tab : Tab
  nx : Nat

def St.val (s : St) : Operand → AV
  | .tmp t => s.tm t
  | .const v => ofValue v
  | .global _ => .undef
  | .func f => .fn (.func f) []

def St.put (s : St) (d : Option Tmp) (v : AV) : St := match d with
  | some d => { s with tm := upd s.tm d v }
  | none => s

def dstOk (s : St) (d : Option Tmp) : Bool := match d with
  | some d => Nat.blt d s.n
  | none => true

/-- A call that is walked in place. -/
abbrev Inl (R : Type) := Fn → List AV → Tab → Nat → (AV → Tab → Nat → Option R) → Option R

def freshOnly (base i : Nat) (c : Chg) : Bool := c.all fun p => Nat.ble (base + room * i) p.1 && Nat.blt p.1 (base + room * i + room)

def fits (E : Env) (draw : Bool) (ops : Array Oper) (base i : Nat) (op : Op) (vw : Tab) (ch : Chg) : Bool :=
  bif draw then (bif chgs E ops i op then seenOnly ops base i ch && (isStore op || !mixB E ops || rowsChg vw ch) else freshOnly base i ch) else bif changes E op then true else freshOnly base i ch

/-! ### Is it nil? Nobody tells. -/
/-- May it be nil? -/
def nilOf (tab : Tab) : AV → Option Bool
  | .row _ xs => some xs.isEmpty
  | .nils => some true
  | .own id => match tab id with
    | some (.row _ _ _ xs) => some xs.isEmpty
    | some (.fro _ _ xs) => some xs.isEmpty
    | _ => none
  | _ => none

/-- What both ways tell, if it is one. -/
def both {R : Type} (a b : Option R) : Option R := @ite _ (a = b) (Classical.propDecidable _) a none

/-- a: what comes if it is nil; it can be, if e says so. -/
def nilK {R : Type} (e : Bool) (a b : Option R) : Option R := bif e then both a b else b

/-- Are all others ahead of it, or behind it? -/
def pivotB (ops : Array Oper) (i : Nat) : Bool := (List.range ops.size).all fun j => Nat.beq j i || (mask ops i).testBit j || (mask ops j).testBit i

/-- What is walked in place. -/
def inlOp {R : Type} (E : Env) (inl : Inl R) (o : Oper) (s : St) (K : St → Option R) : Option R := match o.op with
  | .call { callee := .value f, args, .. } => match s.val f with
    | .fn (.func g) caps => bif dstOk s o.dst then inl (.func g) (args.toList.map s.val ++ caps) s.tab s.nx fun v tab nx => K { s.put o.dst v with tab := tab, nx := nx } else none
    | .fn (.yield 0) [] => bif dstOk s o.dst then inl (.yield 0) (args.toList.map s.val) s.tab s.nx fun v tab nx => K { s.put o.dst v with tab := tab, nx := nx } else none
    | _ => none
  | .binOp .eql t x (.const (.slice none _ _)) _ => match E.P.underlying t, nilOf s.tab (s.val x) with
    | some (.slice _), some e => bif dstOk s o.dst then nilK e (K (s.put o.dst (.bool true))) (K (s.put o.dst (.bool false))) else none
    | _, _ => none
  | .binOp .neq t x (.const (.slice none _ _)) _ => match E.P.underlying t, nilOf s.tab (s.val x) with
    | some (.slice _), some e => bif dstOk s o.dst then nilK e (K (s.put o.dst (.bool false))) (K (s.put o.dst (.bool true))) else none
    | _, _ => none
  | _ => none

def oneOp {R : Type} (E : Env) (inl : Inl R) (draw : Bool) (ops : Array Oper) (base i : Nat) (o : Oper) (s : St) (K : St → Option R) : Option R :=
  match aop E o.op s.val (vwOf E draw o.op ops base i s.tab) (base + room * i) with
  | some e => e.run fun out =>
      bif dstOk s o.dst && fits E draw ops base i o.op (vwOf E draw o.op ops base i s.tab) out.ch then
        K { s.put o.dst out.v with tab := chg s.tab out.ch }
      else none
  | none => bif draw && !pivotB ops i then none else inlOp E inl o s K

def runOps {R : Type} (E : Env) (inl : Inl R) (draw : Bool) (ops : Array Oper) (base : Nat) : Nat → List Oper → St → (St → Option R) → Option R
  | _, [], s, K => K s
  | i, o :: rest, s, K => match o.guard with
    | none => oneOp E inl draw ops base i o s fun s => runOps E inl draw ops base (i + 1) rest s K
    | some (j, want) => match (ops[j]?).bind (·.dst) with
      | some d => match s.tm d with
        | .bool b =>
          bif want then
            (if b = true then oneOp E inl draw ops base i o { s with tm := upd s.tm d (.bool true) } (fun s => runOps E inl draw ops base (i + 1) rest s K)
             else bif dstOk s o.dst then runOps E inl draw ops base (i + 1) rest ({ s with tm := upd s.tm d (.bool false) }.put o.dst (.tup [])) K else none)
          else
            (if b = true then bif dstOk s o.dst then runOps E inl draw ops base (i + 1) rest ({ s with tm := upd s.tm d (.bool true) }.put o.dst (.tup [])) K else none
             else oneOp E inl draw ops base i o { s with tm := upd s.tm d (.bool false) } (fun s => runOps E inl draw ops base (i + 1) rest s K))
        | .tup [] => bif dstOk s o.dst then runOps E inl draw ops base (i + 1) rest (s.put o.dst (.tup [])) K else none
        | _ => none
      | none => none

/-! ### What is kept where ways meet -/
structure Ann where
  /-- the slots that are kept -/
  keep : List Tmp
  /-- slots that are told as rows of one's own, if they hold nil -/
  mat : List (Tmp × Kd × TypeId) := []
  /-- slots whose rows are written no more -/
  fro : List Tmp := []
  /-- cells of the blocks at which slots point, or of structs in slots, likewise -/
  matc : List (Tmp × Nat × Kd × TypeId) := []
  froc : List (Tmp × Nat) := []

def AV.refs : AV → List Nat
  | .own id | .sl id _ _ | .ptr id _ | .eptr id _ _ => [id]
  | _ => []

def AV.refs1 : AV → List Nat
  | .agg l | .tup l => l.flatMap AV.refs
  | .fn _ l => l.flatMap AV.refs
  | v => v.refs

def Blk.refs : Blk → List Nat
  | .cells _ l => l.flatMap AV.refs1
  | _ => []

def addNew : List Nat → List Nat → List Nat
  | acc, [] => acc
  | acc, x :: l => bif acc.any (Nat.beq x) then addNew acc l else addNew (acc ++ [x]) l

/-- The blocks that can be reached. -/
def reach (tab : Tab) : Nat → List Nat → List Nat → List Nat
  | 0, acc, _ => acc
  | f + 1, acc, new =>
    let acc' := addNew acc new
    reach tab f acc' ((acc'.drop acc.length).flatMap fun i => match tab i with
      | some b => b.refs
      | none => [])

/-- Told without any block. -/
def AV.flat : AV → Bool
  | .undef | .int _ _ | .bool _ | .str _ | .row _ _ | .nils | .nilp => true
  | _ => false

def idx (l : List Nat) (i : Nat) : Option Nat := match l with
  | [] => none
  | x :: l => bif Nat.beq x i then some 0 else match idx l i with
    | some n => some (n + 1)
    | none => none

def renId (lo : Nat) (l : List Nat) (i : Nat) : Option Nat := bif Nat.blt i lo then some i else match idx l i with
  | some n => some (lo + n)
  | none => none

def ren0 (lo : Nat) (l : List Nat) : AV → AV
  | .own i => match renId lo l i with | some i => .own i | none => .undef
  | .sl i o n => match renId lo l i with | some i => .sl i o n | none => .undef
  | .ptr i o => match renId lo l i with | some i => .ptr i o | none => .undef
  | .eptr i j o => match renId lo l i with | some i => .eptr i j o | none => .undef
  | .iptr l => bif l.all AV.flat then .iptr l else .undef
  | .agg _ => .undef
  | .tup [] => .tup []
  | .tup _ => .undef
  | .fn f [] => .fn f []
  | .fn _ _ => .undef
  | v => v

def ren1 (lo : Nat) (l : List Nat) : AV → AV
  | .agg vs => .agg (vs.map (ren0 lo l))
  | .tup vs => .tup (vs.map (ren0 lo l))
  | .fn f vs => .fn f (vs.map (ren0 lo l))
  | v => ren0 lo l v

def renB (lo : Nat) (l : List Nat) : Blk → Blk
  | .cells T vs => .cells T (vs.map (ren1 lo l))
  | b => b

def matOne (s : St) (p : Tmp × Kd × TypeId) : St := match s.tm p.1 with
  | .nils => { s with tm := upd s.tm p.1 (.own s.nx), tab := upd s.tab s.nx (some (.row true p.2.1 p.2.2 [])), nx := s.nx + 1 }
  | _ => s

def froOne (s : St) (t : Tmp) : St := match frz1 s.tab (s.tm t) with
  | some c => { s with tm := upd s.tm t (match s.tm t with | .nils => .nils | v => snap s.tab v), tab := chg s.tab c }
  | none => s

def matcOne (s : St) (p : Tmp × Nat × Kd × TypeId) : St := match s.tm p.1 with
  | .ptr id _ => match s.tab id with
    | some (.cells T l) => match l[p.2.1]? with
      | some .nils => { s with tab := upd (upd s.tab s.nx (some (.row true p.2.2.1 p.2.2.2 []))) id (some (.cells T (l.set p.2.1 (.own s.nx)))), nx := s.nx + 1 }
      | _ => s
    | _ => s
  | .agg l => match l[p.2.1]? with
    | some .nils => { s with tm := upd s.tm p.1 (.agg (l.set p.2.1 (.own s.nx))), tab := upd s.tab s.nx (some (.row true p.2.2.1 p.2.2.2 [])), nx := s.nx + 1 }
    | _ => s
  | _ => s

def frzd (tab : Tab) : AV → AV
  | .nils => .nils
  | v => snap tab v

def frocOne (s : St) (p : Tmp × Nat) : St := match s.tm p.1 with
  | .ptr id _ => match s.tab id with
    | some (.cells T l) => match l[p.2]? with
      | some v => match frz1 s.tab v with
        | some c => bif c.any (fun q => Nat.beq q.1 id) then s else { s with tab := upd (chg s.tab c) id (some (.cells T (l.set p.2 (frzd s.tab v)))) }
        | none => s
      | none => s
    | _ => s
  | .agg l => match l[p.2]? with
    | some v => match frz1 s.tab v with
      | some c => { s with tm := upd s.tm p.1 (.agg (l.set p.2 (frzd s.tab v))), tab := chg s.tab c }
      | none => s
    | none => s
  | _ => s

/-- Slots and blocks, one by one. -/
def slots : List (Tmp × AV) → Tmp → AV
  | [], _ => .undef
  | (d, v) :: l, t => bif Nat.beq t d then v else slots l t

def blks : List (Option Blk) → Tab
  | [], _ => none
  | b :: _, 0 => b
  | _ :: l, i + 1 => blks l i

def norm (lo : Nat) (a : Ann) (s : St) : St :=
  let s := a.mat.foldl matOne s
  let s := a.fro.foldl froOne s
  let s := a.matc.foldl matcOne s
  let s := a.froc.foldl frocOne s
  let l := (reach s.tab 4 [] (a.keep.flatMap fun t => (s.tm t).refs1)).filter (Nat.ble lo)
  { n := s.n, tm := slots (a.keep.map fun t => (t, ren1 lo l (s.tm t))), tab := blks ((List.range lo).map (fun i => (s.tab i).map (renB lo l)) ++ l.map fun j => (s.tab j).map (renB lo l)), nx := lo + l.length }

/-! ### Code -/
def firstRegion : Code → Option Nat
  | .region id _ _ => some id
  | .seq a b => match firstRegion a with
    | some i => some i
    | none => firstRegion b
  | .block _ a => firstRegion a
  | .loop a => firstRegion a
  | .scope a => firstRegion a
  | .rangeFunc _ _ _ b => firstRegion b
  | _ => none

abbrev Anns := Nat → Option Ann

/-- z: at a loop's head; else where one code follows another. -/
def keyOf (z : Bool) (i : Nat) : Nat := bif z then 2 * i + 1 else 2 * i

def normAt (lo : Nat) (A : Anns) (z : Bool) (c : Code) (s : St) : St := match firstRegion c with
  | some i => match A (keyOf z i) with
    | some a => norm lo a s
    | none => s
  | none => s

def seqK {R : Type} (N : St → St) (K1 : St → Option R) (K : Exit → St → Option R) : Exit → St → Option R
  | .normal, s => K1 (N s)
  | e, s => K e s

def blockK {R : Type} (id : Nat) (K : Exit → St → Option R) : Exit → St → Option R
  | .exit j, s => bif Nat.beq j id then K .normal s else K (.exit j) s
  | e, s => K e s

def condK {R : Type} (v : AV) (a b : Option R) : Option R := match v with
  | .bool b' => if b' = true then a else b
  | _ => none

def loopN {R : Type} (N : St → St) (body : (Exit → St → Option R) → St → Option R) (K : Exit → St → Option R) : Nat → St → Option R
  | 0, _ => none
  | k + 1, s => body (seqK N (loopN N body K k) K) s

/-- What may be looked at from outside, where ways meet. -/
abbrev Cut (R : Type) := Nat → (St → Option R) → St → Option R

def cutK {R : Type} (M : Cut R) (A : Anns) (c : Code) (f : St → Option R) : St → Option R := match firstRegion c with
  | some i => match A (keyOf false i) with
    | some _ => M (keyOf false i) f
    | none => f
  | none => f

/-- The arguments' values. -/
def argL : (l : LSh) → ElL l → AV
  | .val k, x => (leavesOf k x).headD .undef
  | .own _ _, _ => .undef

def argPs : (ks : List Kd) → ElPs ks → List AV
  | [], _ => []
  | [k], x => [.iptr (leavesOf k x)]
  | k :: b :: l, x => .iptr (leavesOf k x.1) :: argPs (b :: l) x.2

def argS : (s : Sh) → ElS s → AV
  | .leaf l, x => argL l x
  | .st k, x => .agg (leavesOf k x)
  | .agg _, _ => .undef
  | .ptr k, x => .iptr (leavesOf k x)
  | .fn f ks, x => .fn (.func f) (argPs ks x)

def argSs : (ps : List Sh) → ElSs ps → List AV
  | [], _ => []
  | [a], x => [argS a x]
  | a :: b :: l, x => argS a x.1 :: argSs (b :: l) x.2

/-! ### A range over a function -/
/-- The blocks at which captures point: nobody writes into them while it runs. -/
def hidL (tab : Tab) : List AV → Option Chg
  | [] => some []
  | .ptr id _ :: l => match tab id with
    | some (.cells _ vs) => match frz tab vs, hidL tab l with
      | some c, some d => some (c ++ (id, none) :: d)
      | _, _ => none
    | _ => none
  | .iptr vs :: l => match frz tab vs, hidL tab l with
    | some c, some d => some (c ++ d)
    | _, _ => none
  | _ => none

def uncH {X R : Type} (l : List X) (a : Option R) (f : X → Option R) : Option R := match l with
  | [] => a
  | x :: _ => f x

/-- The parameters of a round. -/
def putP : List Tmp → List AV → (Nat → AV) → Nat → AV
  | t :: ts, v :: vs, f => putP ts vs (upd f t v)
  | _, _, f => f

/-- Behind a round: the loop's own slots stand again. -/
def St.at (s s' : St) : St := { n := s.n, tm := s.tm, tab := s'.tab, nx := s'.nx }

def roundK {R : Type} (L : St → Option R) (N : St → St) (s : St) (K : Exit → St → Option R) : Exit → St → Option R
  | .normal, s' => L (N (s.at s'))
  | .ret, s' => K .ret (s.at s')
  | .exit j, s' => K (.exit j) (s.at s')
  | _, _ => none

def asK {R : Type} (f : St → Option R) : Exit → St → Option R
  | .normal, s => f s
  | _, _ => none

/-- One round, or the end. -/
def rangeS {R : Type} (ys : List Sh) (ps : List Tmp) (N : St → St) (body : St → St → (Exit → St → Option R) → Option R) (K : Exit → St → Option R) (L : St → Option R) (l : List (ElSs ys)) (s : St) : Option R :=
  uncH l (K .normal s) fun y => body s { n := s.n, tm := putP ps (argSs ys y) s.tm, tab := s.tab, nx := s.nx } (roundK L N s K)

def rangeL {R : Type} (ys : List Sh) (ps : List Tmp) (N : St → St) (body : St → St → (Exit → St → Option R) → Option R) (K : Exit → St → Option R) : List (ElSs ys) → St → Option R
  | [], s => rangeS ys ps N body K (fun _ => none) [] s
  | y :: l, s => rangeS ys ps N body K (rangeL ys ps N body K l) (y :: l) s

def evC {R : Type} (E : Env) (M : Cut R) (inl : Inl R) : Nat → Anns → Code → St → (Exit → St → Option R) → Option R
  | _, _, .skip, s, K => K .normal s
  | _, _, .region _ ops draw, s, K =>
    bif draw then
      bif drawB E ops then runOps E inl true ops s.nx 0 ops.toList { s with nx := s.nx + room * ops.size } (K .normal) else none
    else runOps E inl false ops s.nx 0 ops.toList { s with nx := s.nx + room * ops.size } (K .normal)
  | lo, A, .seq a b, s, K => evC E M inl lo A a s (seqK (normAt lo A false b) (cutK M A b fun s => evC E M inl lo A b s K) K)
  | lo, A, .cond c a b, s, K => condK (s.val c) (evC E M inl lo A a s K) (evC E M inl lo A b s K)
  | lo, A, .block id a, s, K => evC E M inl lo A a s (blockK id K)
  | lo, A, .loop a, s, K => loopN (normAt lo A true a) (fun K s => evC E M inl lo A a s K) K E.k (normAt lo A true a s)
  | _, _, .exit id, s, K => K (.exit id) s
  | _, _, .ret, s, K => K .ret s
  | _, _, .label _, s, K => K .normal s
  | lo, A, .rangeFunc g ps x b, s, K => match s.val g with
    | .fn (.func gf) caps => match E.GG gf with
      | some gs => match decPs s.tab gs.ks caps, hidL s.tab caps with
        | some a, some c => bif Nat.beq ps.size gs.ys.length && ps.all (fun t => Nat.blt t s.n) then
            (gs.f E.k a).bind fun l => rangeL gs.ys ps.toList (normAt lo A true b) (fun s s1 K1 => evC E M inl s.nx A x s1 (asK fun s2 => evC E M inl s.nx A b s2 K1)) K l (normAt lo A true b { s with tab := chg s.tab c })
          else none
        | _, _ => none
      | none => none
    | _ => none
  | _, _, _, _, _ => none

/-! ### Functions -/
def resV (P : Program) (s : St) : ResultVar → Option AV
  | .tmp t => some (s.tm t)
  | .cell a t => match s.tm a with
    | .ptr id off => match s.tab id with
      | some (.cells _ l) => takeT P t (l.drop off)
      | _ => none
    | _ => none

def resVs (P : Program) (s : St) : List ResultVar → Option (List AV)
  | [] => some []
  | r :: l => match resV P s r with
    | some v => match resVs P s l with
      | some vs => some (v :: vs)
      | none => none
    | none => none

def stAt (fn : Func) (vs : List AV) (tab : Tab) (nx : Nat) : St :=
  { n := max fn.ntmps vs.length, tm := fun t => vs.getD t (.tup []), tab := tab, nx := nx }

def isRet : Exit → Bool
  | .normal | .ret => true
  | _ => false

def inlOf {R : Type} (E : Env) (A : FuncId → Anns) : Nat → Inl R
  | 0 => fun _ _ _ _ _ => none
  | d + 1 => fun h vs tab nx K => match h with
    | .func g => match E.P.funcs[g]? with
      | some fn => match fn.body with
        | some c => evC E (fun _ f => f) (inlOf E A d) nx (A g) c (stAt fn vs tab nx) fun e s =>
            bif isRet e then match resVs E.P s fn.results.toList with
              | some vs => K (oneOf vs) s.tab s.nx
              | none => none
            else none
        | none => none
      | none => none
    | _ => none

/-- In a function that is ranged over: a call of yield tells what it hands over. -/
def gcons {X : Type} (x : X) (a b : Option (List X)) : Option (List X) := match a, b with
  | some l, some [] => some (x :: l)
  | _, _ => none

def genI (ys : List Sh) (inl : Inl (List (ElSs ys))) : Inl (List (ElSs ys)) := fun h vs tab nx K => match h with
  | .yield _ => match decSs tab ys vs, frz tab (vs.flatMap AV.leaves) with
    | some x, some c => bif ys.any Sh.refs then none else gcons x (K (.bool true) (chg tab c) nx) (K (.bool false) (chg tab c) nx)
    | _, _ => none
  | h => inl h vs tab nx K

/-- What is told, out of the values at the end. -/
def retL (tab : Tab) : (l : LSh) → AV → Option (ElL l)
  | .val k, v => bif leafB v then toElAll k [snap tab v] else none
  | .own k T, v => match v with
    | .nils => some []
    | .own id => match tab id with
      | some (.row true k' T' xs) => if h : k' = k then (bif Nat.beq T' T then some (castR h xs) else none) else none
      | _ => none
    | .sl id off len => match tab id with
      | some (.row true k' T' xs) => if h : k' = k then (bif Nat.beq T' T then some (((castR h xs : List (El k)).drop off).take len) else none) else none
      | _ => none
    | _ => none

def retLs (tab : Tab) : (ls : List LSh) → List AV → Option (ElLs ls)
  | [], [] => some ()
  | [a], [v] => retL tab a v
  | a :: b :: l, v :: vs => match retL tab a v with
    | some x => match retLs tab (b :: l) vs with
      | some y => some (x, y)
      | none => none
    | none => none
  | _, _ => none

def retS (tab : Tab) : (s : Sh) → AV → Option (ElS s)
  | .leaf l, v => retL tab l v
  | .st k, .agg l => bif l.all leafB then toElAll k (l.map (snap tab)) else none
  | .agg ls, .agg l => retLs tab ls l
  | _, _ => none

def retSs (tab : Tab) : (rs : List Sh) → List AV → Option (ElSs rs)
  | [], [] => some ()
  | [a], [v] => retS tab a v
  | a :: b :: l, v :: vs => match retS tab a v with
    | some x => match retSs tab (b :: l) vs with
      | some y => some (x, y)
      | none => none
    | none => none
  | _, _ => none

/-- Where the blocks of what is told come from: block, first element, count, an element's cells. None: nil. -/
abbrev Whence := Option (Nat × Nat × Option Nat × Nat)

def srcL : LSh → AV → List Whence
  | .own k _, .own id => [some (id, 0, none, k.sz)]
  | .own k _, .sl id off len => [some (id, off, some len, k.sz)]
  | .own _ _, _ => [none]
  | .val _, _ => []

def srcLs : List LSh → List AV → List Whence
  | l :: ls, v :: vs => srcL l v ++ srcLs ls vs
  | _, _ => []

def srcS : Sh → AV → List Whence
  | .leaf l, v => srcL l v
  | .st _, _ => []
  | .agg ls, v => srcLs ls v.leaves
  | .ptr _, _ => []
  | .fn _ _, _ => []

def srcSs : List Sh → List AV → List Whence
  | s :: ss, v :: vs => srcS s v ++ srcSs ss vs
  | _, _ => []

def Whence.ids (l : List Whence) : List Nat := l.filterMap fun s => s.map (·.1)

/-- The blocks of what is told that does not stay mutable. -/
def froL : LSh → AV → List Nat
  | .val _, v => v.id?.toList
  | .own _ _, _ => []

def froLs : List LSh → List AV → List Nat
  | l :: ls, v :: vs => froL l v ++ froLs ls vs
  | _, _ => []

def froS : Sh → AV → List Nat
  | .leaf l, v => froL l v
  | .st _, v => v.leaves.filterMap AV.id?
  | .agg ls, v => froLs ls v.leaves
  | .ptr _, _ => []
  | .fn _ _, _ => []

def froSs : List Sh → List AV → List Nat
  | s :: ss, v :: vs => froS s v ++ froSs ss vs
  | _, _ => []

def retK (P : Program) (fn : Func) (rs : List Sh) (e : Exit) (s : St) : Option (ElSs rs) :=
  bif isRet e then
    match resVs P s fn.results.toList with
    | some vs => bif nodupB (Whence.ids (srcSs rs vs)) && (froSs rs vs).all (fun i => !(Whence.ids (srcSs rs vs)).any (Nat.beq i)) && Nat.ble ((rs.map Sh.ids).sum) room then retSs s.tab rs vs else none
    | none => none
  else none

/-- A function's body, evaluated at plain arguments. -/
def evF (E : Env) (A : FuncId → Anns) (d : Nat) (g : FuncId) (fn : Func) (c : Code) (ps rs : List Sh) (a : ElSs ps) : Option (ElSs rs) :=
  evC E (fun _ f => f) (inlOf E A d) 0 (A g) c (stAt fn (argSs ps a) (fun _ => none) 0) (retK E.P fn rs)

/-- What is left in the row that was handed over. -/
def retB (P : Program) (fn : Func) (k : Kd) (T : TypeId) (e : Exit) (s : St) : Option (List (El k)) :=
  bif isRet e then
    match resVs P s fn.results.toList with
    | some [] => match s.tab 0 with
      | some (.row false k' T' zs) => if h : k' = k then bif Nat.beq T' T then some (castR h zs) else none else none
      | _ => none
    | _ => none
  else none

/-- Where a function that writes into its first argument begins. -/
def tabB (k : Kd) (T : TypeId) (xs : List (El k)) : Tab := blks [some (.row false k T xs)]

def evB (E : Env) (A : FuncId → Anns) (d : Nat) (g : FuncId) (fn : Func) (c : Code) (k : Kd) (T : TypeId) (ps : List Sh) (xs : List (El k)) (off len : Nat) (a : ElSs ps) : Option (List (El k)) :=
  evC E (fun _ f => f) (inlOf E A d) 1 (A g) c (stAt fn (.sl 0 off len :: argSs ps a) (tabB k T xs) 1) (retB E.P fn k T)

/-- What a function that is ranged over yields, one after the other. -/
def retG {X : Type} (P : Program) (fn : Func) (e : Exit) (s : St) : Option (List X) := bif isRet e then match resVs P s fn.results.toList with
    | some _ => some []
    | none => none
  else none

def evG (E : Env) (A : FuncId → Anns) (d : Nat) (g : FuncId) (fn : Func) (c : Code) (ks : List Kd) (ys : List Sh) (a : ElPs ks) : Option (List (ElSs ys)) :=
  evC E (fun _ f => f) (genI ys (inlOf E A d)) 0 (A g) c (stAt fn (.fn (.yield 0) [] :: argPs ks a) (fun _ => none) 0) (retG E.P fn)

/-! ### What a printed text names -/
def step (x : Bool) : Code → Code
  | .seq a b => bif x then b else a
  | .cond _ a b => bif x then b else a
  | .block _ a => a
  | .loop a => a
  | .rangeFunc _ _ a b => bif x then b else a
  | c => c

def sub : List Bool → Code → Code
  | [], c => c
  | x :: p, c => sub p (step x c)

def bodyOf (f : Func) : Code := match f.body with
  | some c => c
  | none => .skip

def tabA : List (Nat × Ann) → Anns
  | [], _ => none
  | (i, a) :: l, j => bif Nat.beq j i then some a else tabA l j

def tabG : List (FuncId × Spec) → FuncId → Option Spec
  | [], _ => none
  | (i, a) :: l, j => bif Nat.beq j i then some a else tabG l j

def tabGB : List (FuncId × BSpec) → FuncId → Option BSpec
  | [], _ => none
  | (i, a) :: l, j => bif Nat.beq j i then some a else tabGB l j

def tabGG : List (FuncId × GSpec) → FuncId → Option GSpec
  | [], _ => none
  | (i, a) :: l, j => bif Nat.beq j i then some a else tabGG l j

def only (g : FuncId) (A : Anns) (i : FuncId) : Anns := bif Nat.beq i g then A else fun _ => none

end
end Go.Proofs.Ytmjbjlhjpdebjaa.Mini
