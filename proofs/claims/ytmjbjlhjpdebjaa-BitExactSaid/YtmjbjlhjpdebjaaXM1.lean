/- A small machine over plain data: its values, its blocks, its steps. Definitions alone. -/
import Derived.Calls
import Derived.LoopN
import Derived.Orders
import Derived.Tactics
import Derived.Below
import Derived.RowKit
import Derived.Laws.Entries
namespace Go.Proofs.Ytmjbjlhjpdebjaa.Mini
open Go Go.RowKit
noncomputable section

/-! ### Plain data -/
inductive Kd where
  | int (k : IntKind)
  | bool
  | str
  | unit
  | pair (a b : Kd)
  | row (a : Kd)
  deriving DecidableEq, Inhabited

abbrev El : Kd → Type
  | .int _ => Int
  | .bool => Bool
  | .str => ByteArray
  | .unit => Unit
  | .pair a b => El a × El b
  | .row a => List (El a)

/-- So many cells. -/
def Kd.sz : Kd → Nat
  | .int _ => 1
  | .bool => 1
  | .str => 1
  | .unit => 0
  | .pair a b => a.sz + b.sz
  | .row _ => 1

/-- Does it hold rows? -/
def Kd.mem : Kd → Bool
  | .pair a b => a.mem || b.mem
  | .row _ => true
  | _ => false

def dflt : (k : Kd) → El k
  | .int _ => (0 : Int)
  | .bool => false
  | .str => (⟨#[]⟩ : ByteArray)
  | .unit => ()
  | .pair a b => (dflt a, dflt b)
  | .row _ => []

inductive AV : Type where
  | undef
  | int (k : IntKind) (n : Int)
  | bool (b : Bool)
  | str (s : ByteArray)
  | row (k : Kd) (xs : List (El k))
  | nils
  | own (id : Nat)
  | sl (id off len : Nat)
  | ptr (id off : Nat)
  | eptr (id j off : Nat)
  | iptr (l : List AV)
  | nilp
  | agg (l : List AV)
  | tup (l : List AV)
  | fn (f : Fn) (caps : List AV)
  deriving Inhabited

/-- The cells' values. -/
def leavesOf : (k : Kd) → El k → List AV
  | .int k, n => [.int k n]
  | .bool, b => [.bool b]
  | .str, s => [.str s]
  | .unit, _ => []
  | .pair a b, x => leavesOf a x.1 ++ leavesOf b x.2
  | .row a, xs => [.row a xs]

/-! Definitions of some height. -/
def hgt0 : Nat := 0
def hgt1 : Nat := hgt0
def hgt2 : Nat := hgt1
def hgt3 : Nat := hgt2
def hgt4 : Nat := hgt3
def hgt5 : Nat := hgt4
def hgt6 : Nat := hgt5
def hgt7 : Nat := hgt6
def hgt8 : Nat := hgt7
def hgt9 : Nat := hgt8
def hgt10 : Nat := hgt9
def hgt11 : Nat := hgt10
def hgt12 : Nat := hgt11
def hgt13 : Nat := hgt12
def hgt14 : Nat := hgt13
def hgt15 : Nat := hgt14
def hgt16 : Nat := hgt15
def hgt17 : Nat := hgt16
def hgt18 : Nat := hgt17
def hgt19 : Nat := hgt18
def hgt20 : Nat := hgt19
def hgt21 : Nat := hgt20
def hgt22 : Nat := hgt21
def hgt23 : Nat := hgt22
def hgt24 : Nat := hgt23
def hgt25 : Nat := hgt24
def hgt26 : Nat := hgt25
def hgt27 : Nat := hgt26
def hgt28 : Nat := hgt27
def hgt29 : Nat := hgt28
def hgt30 : Nat := hgt29
def hgt31 : Nat := hgt30
def hgt32 : Nat := hgt31
def hgt33 : Nat := hgt32
def hgt34 : Nat := hgt33
def hgt35 : Nat := hgt34
def hgt36 : Nat := hgt35
def hgt37 : Nat := hgt36
def hgt38 : Nat := hgt37
def hgt39 : Nat := hgt38
def hgt40 : Nat := hgt39
/-- A row, its kind told otherwise. (The machine that checks looks into it ahead of what stands beside it: so its height.) -/
def castR {a b : Kd} (h : a = b) (xs : List (El a)) : List (El b) :=
  let _n : Nat := hgt40
  h ▸ xs
theorem castR_rfl {a : Kd} (xs : List (El a)) : castR rfl xs = xs := rfl
theorem castR_heq {a b : Kd} (h : a = b) (xs : List (El a)) : HEq (castR h xs) xs := by
  subst h
  rfl

/-- Cells' values as data, and what is left of the list. -/
def toEl : (k : Kd) → List AV → Option (El k × List AV)
  | .int k, .int k' n :: l => if k' = k then some (n, l) else none
  | .bool, .bool b :: l => some (b, l)
  | .str, .str s :: l => some (s, l)
  | .unit, l => some ((), l)
  | .pair a b, l => match toEl a l with
    | some (x, l) => match toEl b l with
      | some (y, l) => some ((x, y), l)
      | none => none
    | none => none
  | .row a, .row a' xs :: l => if h : a' = a then some (castR h xs, l) else none
  | .row _, .nils :: l => some ([], l)
  | _, _ => none

def toElAll (k : Kd) (l : List AV) : Option (El k) := match toEl k l with
  | some (x, []) => some x
  | _ => none

def AV.leaves : AV → List AV
  | .agg l => l
  | v => [v]

/-- The value of one cell, surely. -/
def leafB : AV → Bool
  | .undef | .agg _ | .tup _ => false
  | _ => true

/-! ### Blocks, the table -/
inductive Blk : Type where
  | row (o : Bool) (k : Kd) (T : TypeId) (xs : List (El k))
  | fro (k : Kd) (T : TypeId) (xs : List (El k))
  | cells (T : TypeId) (l : List AV)

abbrev Tab := Nat → Option Blk

def upd {α : Type} (f : Nat → α) (i : Nat) (x : α) : Nat → α := fun j => bif Nat.beq j i then x else f j

abbrev Chg := List (Nat × Option Blk)

def chg (t : Tab) (l : Chg) : Tab := l.foldl (fun t p => upd t p.1 p.2) t

structure Out where
  v : AV
  ch : Chg

inductive Eff : Type 1 where
  | out (o : Out)
  | guard (c : Prop) (d : Decidable c) (e : Eff)
  | bind (T : Type) (m : Option T) (f : T → Out)

def Eff.run {R : Type} : Eff → (Out → Option R) → Option R
  | .out o, K => K o
  | .guard c d e, K => @ite _ c d (e.run K) none
  | .bind _ m f, K => m.bind fun t => K (f t)

inductive Eff.Res : Eff → Out → Prop where
  | out {o : Out} : Eff.Res (.out o) o
  | guard {c : Prop} {d : Decidable c} {e : Eff} {o : Out} (h : c) (k : Eff.Res e o) : Eff.Res (.guard c d e) o
  | bind {T : Type} {m : Option T} {f : T → Out} {t : T} (h : m = some t) : Eff.Res (.bind T m f) (f t)

/-! Tests of numbers, into which the machine that checks does not look. -/
theorem leI_ex : ∃ f : Int → Int → Bool, ∀ a b, f a b = decide (a ≤ b) := ⟨fun a b => decide (a ≤ b), fun _ _ => rfl⟩
theorem ltI_ex : ∃ f : Int → Int → Bool, ∀ a b, f a b = decide (a < b) := ⟨fun a b => decide (a < b), fun _ _ => rfl⟩
theorem eqI_ex : ∃ f : Int → Int → Bool, ∀ a b, f a b = decide (a = b) := ⟨fun a b => decide (a = b), fun _ _ => rfl⟩
def leI : Int → Int → Bool := Classical.choose leI_ex
def ltI : Int → Int → Bool := Classical.choose ltI_ex
def eqI : Int → Int → Bool := Classical.choose eqI_ex
theorem leI_eq (a b : Int) : leI a b = decide (a ≤ b) := Classical.choose_spec leI_ex a b
theorem ltI_eq (a b : Int) : ltI a b = decide (a < b) := Classical.choose_spec ltI_ex a b
theorem eqI_eq (a b : Int) : eqI a b = decide (a = b) := Classical.choose_spec eqI_ex a b
theorem leI_iff (a b : Int) : leI a b = true ↔ a ≤ b := by
  rw [leI_eq]
  simp
theorem ltI_iff (a b : Int) : ltI a b = true ↔ a < b := by
  rw [ltI_eq]
  simp
theorem eqI_iff (a b : Int) : eqI a b = true ↔ a = b := by
  rw [eqI_eq]
  simp

class Gd (c : Prop) where
  b : Bool
  ok : b = true ↔ c
instance {x y : Int} : Gd (x ≤ y) := ⟨leI x y, leI_iff x y⟩
instance {x y : Int} : Gd (x < y) := ⟨ltI x y, ltI_iff x y⟩
instance {x y : Int} : Gd (x ≠ y) := ⟨!eqI x y, by
  have := eqI_iff x y
  cases h : eqI x y <;> simp_all⟩

def wh (c : Prop) [g : Gd c] (e : Eff) : Eff := .guard (g.b = true) inferInstance e

/-! ### Types -/
def kdList : List Kd → Kd
  | [] => .unit
  | [k] => k
  | k :: ks => .pair k (kdList ks)

def offsOk (P : Program) : Nat → List (Field × Kd) → Bool
  | _, [] => true
  | n, (f, k) :: l => Nat.beq f.offset n && Nat.beq (P.cellsOf f.type) k.sz && offsOk P (n + k.sz) l

def kdOf (P : Program) : Nat → TypeId → Option Kd
  | 0, _ => none
  | d + 1, t => match P.underlying t with
    | some (.int k) => some (.int k)
    | some .bool => some .bool
    | some .string => some .str
    | some (.slice e) => match kdOf P d e with
      | some k => bif Nat.beq (P.cellsOf e) k.sz && Nat.blt 0 k.sz then some (.row k) else none
      | none => none
    | some (.struct fs) => match fs.toList.mapM (fun f => kdOf P d f.type) with
      | some ks => bif offsOk P 0 (fs.toList.zip ks) then some (kdList ks) else none
      | none => none
    | some (.array n e) => match kdOf P d e with
      | some k => bif Nat.beq (P.cellsOf e) k.sz then some (kdList (List.replicate n k)) else none
      | none => none
    | _ => none

/-- The kind of a type's values, its cells counted. -/
def kd (P : Program) (t : TypeId) : Option Kd := match kdOf P 8 t with
  | some k => bif Nat.beq (P.cellsOf t) k.sz then some k else none
  | none => none

/-- Is it a struct or an array? How many cells has it? -/
def shapeOf (P : Program) (t : TypeId) : Option (Bool × Nat) := match P.underlying t, P.info? t with
  | some (.struct _), some i => some (true, i.size)
  | some (.array _ _), some i => some (true, i.size)
  | some _, some i => some (false, i.size)
  | _, _ => none

def ofLeaf : Value → AV
  | .int k n => .int k n
  | .bool b => .bool b
  | .string s => .str s
  | .slice a n c => bif a.isNone && Nat.beq n 0 && Nat.beq c 0 then .nils else .undef
  | .pointer a => bif a.isNone then .nilp else .undef
  | .func (.func f) a b => bif Nat.beq a.size 0 && Nat.beq b.size 0 then .fn (.func f) [] else .undef
  | .tuple a => bif Nat.beq a.size 0 then .tup [] else .undef
  | _ => .undef

def ofValue : Value → AV
  | .agg cs => .agg (cs.toList.map ofLeaf)
  | v => ofLeaf v

def zeroLeaves (P : Program) (t : TypeId) : Option (List AV) := match P.info? t with
  | some i => match i.zero with
    | some v => bif Nat.beq v.cells.size i.size then some (v.cells.toList.map ofLeaf) else none
    | none => none
  | none => none

def bytesOf (P : Program) (t : TypeId) : Nat := P.bytesOf t

/-! ### Numbers -/
def wr (k : IntKind) (n : Int) : Int := match k with
  | .i64 => wrap64 n
  | .i32 => wrap32 n
  | .u8 => n % 256
  | .u16 => n % 65536
  | .u32 => n % 4294967296
  | .u64 => n % 18446744073709551616
  | k => k.wrap n
def p2 (n : Nat) : Int := Int.ofNat (2 ^ n)
def mn (a b : Int) : Int := if b < a then b else a
def mx (a b : Int) : Int := if a < b then b else a

def ok (v : AV) : Option Eff := some (.out ⟨v, []⟩)

def binI (op : BinOp) (k : IntKind) (x : Int) (k' : IntKind) (y : Int) : Option Eff :=
  match op with
  | .shl => some (wh (0 ≤ y) (.out ⟨.int k (wr k (x * p2 (min y.toNat k.bits))), []⟩))
  | .shr => some (wh (0 ≤ y) (.out ⟨.int k (x / p2 (min y.toNat k.bits)), []⟩))
  | op => if k = k' then
    match op with
    | .add => ok (.int k (wr k (x + y)))
    | .sub => ok (.int k (wr k (x - y)))
    | .mul => ok (.int k (wr k (x * y)))
    | .quo => some (wh (y ≠ 0) (.out ⟨.int k (wr k (x.tdiv y)), []⟩))
    | .rem => some (wh (y ≠ 0) (.out ⟨.int k (x.tmod y), []⟩))
    | .and => ok (.int k (bits .and k x y))
    | .or => ok (.int k (bits .or k x y))
    | .xor => ok (.int k (bits .xor k x y))
    | .andNot => ok (.int k (bits .andNot k x y))
    | .eql => ok (.bool (eqI x y))
    | .neq => ok (.bool (!eqI x y))
    | .lss => ok (.bool (ltI x y))
    | .leq => ok (.bool (leI x y))
    | .gtr => ok (.bool (ltI y x))
    | .geq => ok (.bool (leI y x))
    | _ => none
    else none

def binV (P : Program) (ty : TypeId) (op : BinOp) (x y : AV) : Option Eff :=
  match x, y with
  | .int k a, .int k' b => binI op k a k' b
  | .bool a, .bool b => match P.underlying ty with
    | some .bool => (match op with
      | .eql => ok (.bool (a == b))
      | .neq => ok (.bool (!(a == b)))
      | _ => none)
    | _ => none
  | .str a, .str b => match op with
    | .eql => ok (.bool (a.toList == b.toList))
    | .neq => ok (.bool (!(a.toList == b.toList)))
    | _ => none
  | .nilp, .nilp => match P.underlying ty with
    | some (.pointer _) => (match op with
      | .eql => ok (.bool true)
      | .neq => ok (.bool false)
      | _ => none)
    | _ => none
  | .ptr _ _, .nilp => match P.underlying ty with
    | some (.pointer _) => (match op with
      | .eql => ok (.bool false)
      | .neq => ok (.bool true)
      | _ => none)
    | _ => none
  | _, _ => none

def unV (op : UnOp) (x : AV) : Option Eff :=
  match op, x with
  | .neg, .int k n => ok (.int k (wr k (0 - n)))
  | .xor, .int k n => ok (.int k (bits .xor k (if k.signed then -1 else k.max) n))
  | .not, .bool b => ok (.bool (!b))
  | _, _ => none

/-! ### Snapshots -/
def snap (tab : Tab) : AV → AV
  | .own id => match tab id with
    | some (.row _ k _ xs) => .row k xs
    | some (.fro k _ xs) => .row k xs
    | _ => .undef
  | .sl id off len => match tab id with
    | some (.row _ k _ xs) => .row k ((xs.drop off).take len)
    | some (.fro k _ xs) => .row k ((xs.drop off).take len)
    | _ => .undef
  | v => v

/-- Blocks of one's own that are mutable no more: 'none': it may not be. -/
def frz1 (tab : Tab) : AV → Option Chg
  | .own id | .sl id _ _ => match tab id with
    | some (.row true k T xs) => some [(id, some (.fro k T xs))]
    | some (.fro _ _ _) => some []
    | _ => none
  | _ => some []

def frz (tab : Tab) : List AV → Option Chg
  | [] => some []
  | v :: l => match frz1 tab v with
    | some c => match frz tab l with
      | some d => some (c ++ d)
      | none => none
    | none => none

/-! ### Shapes of what goes over a call -/
inductive LSh where
  | val (k : Kd)
  | own (k : Kd) (T : TypeId)
  deriving DecidableEq

abbrev ElL : LSh → Type
  | .val k => El k
  | .own k _ => List (El k)

abbrev ElLs : List LSh → Type
  | [] => Unit
  | [a] => ElL a
  | a :: b :: l => ElL a × ElLs (b :: l)

/-- ptr: a pointer at what is read alone; fn: a function whose captures are such. -/
inductive Sh where
  | leaf (l : LSh)
  | st (k : Kd)
  | agg (ls : List LSh)
  | ptr (k : Kd)
  | fn (f : FuncId) (ks : List Kd)
  deriving DecidableEq

abbrev ElPs : List Kd → Type
  | [] => Unit
  | [k] => El k
  | k :: b :: l => El k × ElPs (b :: l)

abbrev ElS : Sh → Type
  | .leaf l => ElL l
  | .st k => El k
  | .agg ls => ElLs ls
  | .ptr k => El k
  | .fn _ ks => ElPs ks

abbrev ElSs : List Sh → Type
  | [] => Unit
  | [a] => ElS a
  | a :: b :: l => ElS a × ElSs (b :: l)

structure Spec where
  ps : List Sh
  rs : List Sh
  f : Nat → ElSs ps → Option (ElSs rs)

def LSh.alias : LSh → Bool
  | .val k => k.mem
  | .own k _ => k.mem

def Sh.alias : Sh → Bool
  | .leaf l => l.alias
  | .st k => k.mem
  | .agg ls => ls.any LSh.alias
  | .ptr _ => true
  | .fn _ _ => true

/-- Does it point at what is not its own? -/
def Sh.refs : Sh → Bool
  | .ptr _ => true
  | .fn _ ks => !ks.isEmpty
  | _ => false

/-- May what a call tells share memory with what it was handed? -/
def Spec.alias (s : Spec) : Bool := s.rs.any Sh.alias

/-- One leaf of what is handed over, as data. -/
def decL (tab : Tab) : (l : LSh) → AV → Option (ElL l)
  | .val k, v => bif leafB v then toElAll k [snap tab v] else none
  | .own _ _, _ => none

/-- What a pointer points at, as data. -/
def decP (tab : Tab) (k : Kd) : AV → Option (El k)
  | .ptr id off => match tab id with
    | some (.cells _ l) => bif ((l.drop off).take k.sz).all leafB then toElAll k (((l.drop off).take k.sz).map (snap tab)) else none
    | _ => none
  | .iptr l => bif (l.take k.sz).all leafB then toElAll k ((l.take k.sz).map (snap tab)) else none
  | _ => none

def decPs (tab : Tab) : (ks : List Kd) → List AV → Option (ElPs ks)
  | [], [] => some ()
  | [k], [v] => decP tab k v
  | k :: b :: l, v :: vs => match decP tab k v with
    | some x => match decPs tab (b :: l) vs with
      | some y => some (x, y)
      | none => none
    | none => none
  | _, _ => none

def decS (tab : Tab) : (s : Sh) → AV → Option (ElS s)
  | .leaf l, v => decL tab l v
  | .st k, .agg l => bif l.all leafB then toElAll k (l.map (snap tab)) else none
  | .st _, _ => none
  | .agg _, _ => none
  | .ptr k, v => decP tab k v
  | .fn f ks, .fn (.func f') l => bif Nat.beq f' f then decPs tab ks l else none
  | .fn _ _, _ => none

def decSs (tab : Tab) : (ps : List Sh) → List AV → Option (ElSs ps)
  | [], [] => some ()
  | [a], [v] => decS tab a v
  | a :: b :: l, v :: vs => match decS tab a v with
    | some x => match decSs tab (b :: l) vs with
      | some y => some (x, y)
      | none => none
    | none => none
  | _, _ => none

def AV.id? : AV → Option Nat
  | .own id | .sl id _ _ => some id
  | _ => none

def idsOf (l : List AV) : List Nat := l.flatMap fun v => v.leaves.filterMap AV.id?

def nodupB : List Nat → Bool
  | [] => true
  | x :: l => !l.any (Nat.beq x) && nodupB l

def splice {α : Type} (xs : List α) (off : Nat) (ys : List α) : List α := xs.take off ++ ys ++ xs.drop (off + ys.length)

/-- One leaf of what was told. -/
def encL (fresh : Nat) : (l : LSh) → ElL l → AV × Chg
  | .val k, x => ((leavesOf k x).headD .undef, [])
  | .own k T, x => (.own fresh, [(fresh, some (.row true k T x))])

def LSh.ids : LSh → Nat
  | .own _ _ => 1
  | _ => 0

def encLs : (fresh : Nat) → (ls : List LSh) → ElLs ls → List AV × Chg
  | _, [], _ => ([], [])
  | n, [a], x => ([(encL n a x).1], (encL n a x).2)
  | n, a :: b :: l, x => ((encL n a x.1).1 :: (encLs (n + a.ids) (b :: l) x.2).1, (encL n a x.1).2 ++ (encLs (n + a.ids) (b :: l) x.2).2)

def Sh.ids : Sh → Nat
  | .leaf l => l.ids
  | .st _ => 0
  | .agg ls => (ls.map LSh.ids).sum
  | .ptr _ => 0
  | .fn _ _ => 0

def encS (fresh : Nat) : (s : Sh) → ElS s → AV × Chg
  | .leaf l, x => encL fresh l x
  | .st k, x => (.agg (leavesOf k x), [])
  | .agg ls, x => (.agg (encLs fresh ls x).1, (encLs fresh ls x).2)
  | .ptr _, _ => (.undef, [])
  | .fn _ _, _ => (.undef, [])

def encSs : (fresh : Nat) → (rs : List Sh) → ElSs rs → List AV × Chg
  | _, [], _ => ([], [])
  | n, [a], x => ([(encS n a x).1], (encS n a x).2)
  | n, a :: b :: l, x => ((encS n a x.1).1 :: (encSs (n + a.ids) (b :: l) x.2).1, (encS n a x.1).2 ++ (encSs (n + a.ids) (b :: l) x.2).2)

/-- The values that are told. -/
def oneOf : List AV → AV
  | [v] => v
  | l => .tup l

/-- So many blocks an operation may make. -/
def room : Nat := 16

def callV (k : Nat) (s : Spec) (vs : List AV) (tab : Tab) (fresh : Nat) : Option Eff :=
  match decSs tab s.ps vs, (bif s.alias then (bif s.ps.any Sh.refs then none else frz tab (vs.flatMap AV.leaves)) else some []) with
  | some a, some c => bif Nat.ble ((s.rs.map Sh.ids).sum) room then
      some (.bind (ElSs s.rs) (s.f k a) fun t => ⟨oneOf (encSs fresh s.rs t).1, c ++ (encSs fresh s.rs t).2⟩)
    else none
  | _, _ => none

/-- A function that writes into its first argument, a row: what that row is afterwards: f k xs off len ..: the whole block's row xs; handed over is what stands from off on, so much. -/
structure BSpec where
  k : Kd
  T : TypeId
  ps : List Sh
  f : Nat → List (El k) → Nat → Nat → ElSs ps → Option (List (El k))

/-- The row that is handed over to be written: block, first element, count. -/
def borAt : AV → Option (Nat × Nat × Option Nat)
  | .own id => some (id, 0, none)
  | .sl id off len => some (id, off, some len)
  | _ => none

def borLen (len : Option Nat) (n : Nat) : Nat := match len with
  | some m => m
  | none => n

def callB (k : Nat) (s : BSpec) (vs : List AV) (tab : Tab) : Option Eff := match vs with
  | v :: vs => match borAt v with
    | some (id, off, len) => bif s.k.mem || s.ps.any Sh.refs || (idsOf vs).any (Nat.beq id) then none else
      match decSs tab s.ps vs, tab id with
      | some a, some (.row o k' T xs) => if h : k' = s.k then bif Nat.beq T s.T then
          some (.bind (List (El s.k)) (s.f k (castR h xs) off (borLen len xs.length) a) fun zs => ⟨.tup [], [(id, some (.row o s.k s.T zs))]⟩)
        else none else none
      | _, _ => none
    | none => none
  | [] => none

/-- A function's number among what is known; with a function handed over, it is known for that one. -/
def gkey (g : Nat) : List AV → Nat
  | [] => g
  | .fn (.func c) _ :: _ => g + 1000000 * (c + 1)
  | _ :: l => gkey g l

def gOf (g : Nat) : Nat := g % 1000000

/-- A function that is ranged over: its captures' cells; what it yields, one after the other. -/
structure GSpec where
  ks : List Kd
  ys : List Sh
  f : Nat → ElPs ks → Option (List (ElSs ys))

structure Env where
  P : Program
  k : Nat
  G : FuncId → Option Spec
  GB : FuncId → Option BSpec := fun _ => none
  GG : FuncId → Option GSpec := fun _ => none

end
end Go.Proofs.Ytmjbjlhjpdebjaa.Mini
