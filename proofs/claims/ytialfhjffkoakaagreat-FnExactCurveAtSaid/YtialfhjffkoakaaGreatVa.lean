import Derived.Calls
import Derived.Orders
import Derived.Laws.Sem
import Derived.Below
import Derived.WalkKit
namespace Go.VAI

/-- Values without addresses. -/
inductive PV where
  | val (v : Value)
  | agg (ls : List PV)
  | sl (es : List PV)
  | pt (ls : List PV)
  | fn (f : FuncId) (caps : List PV)
  deriving Inhabited

inductive TK where
  | scalar | slice (elem : Nat) | struct (fields : List (Nat × Nat)) | other

structure TI where
  size : Nat
  ag : Bool
  bytes : Nat
  zero : List PV
  kind : TK

inductive Tree (α : Type) where
  | leaf
  | node (l : Tree α) (k : Nat) (v : α) (r : Tree α)
def Tree.get {α : Type} : Tree α → Nat → Option α
  | .leaf, _ => none
  | .node l k v r, t => if t = k then some v else if t < k then l.get t else r.get t
def nilSl : Value := .slice none 0 0
def tts : Tree TI := (.node (.node (.node (.node (.node (.node .leaf 2 ⟨1, false, 8, [.val (.int .i64 0)], .scalar⟩ .leaf) 3 ⟨1, false, 8, [.val (.int .i64 0)], .scalar⟩ .leaf) 4 ⟨1, false, 1, [.val (.bool false)], .scalar⟩ (.node .leaf 5 ⟨1, false, 1, [.val (.int .u8 0)], .scalar⟩ .leaf)) 6 ⟨1, false, 1, [.val (.int .u8 0)], .scalar⟩ (.node (.node .leaf 7 ⟨4, true, 24, [.val (.int .i64 0), .val (.int .i64 0), .val (.bool false), .val (.int .u8 0)], .struct [(0, 2), (1, 3), (2, 4), (3, 6)]⟩ .leaf) 8 ⟨4, true, 24, [.val (.int .i64 0), .val (.int .i64 0), .val (.bool false), .val (.int .u8 0)], .struct [(0, 2), (1, 3), (2, 4), (3, 6)]⟩ (.node .leaf 12 ⟨1, false, 8, [.val (.int .u64 0)], .scalar⟩ .leaf))) 21 ⟨1, false, 4, [.val (.int .i32 0)], .scalar⟩ (.node (.node (.node (.node .leaf 22 ⟨1, false, 24, [.val nilSl], .slice 56⟩ .leaf) 24 ⟨1, false, 24, [.val nilSl], .slice 3⟩ .leaf) 25 ⟨2, true, 32, [.val (.bool false), .val nilSl], .struct [(0, 4), (1, 24)]⟩ (.node .leaf 26 ⟨2, true, 32, [.val (.bool false), .val nilSl], .struct [(0, 4), (1, 24)]⟩ .leaf)) 27 ⟨4, true, 64, [.val (.bool false), .val nilSl, .val (.bool false), .val nilSl], .struct [(0, 26), (2, 26)]⟩ (.node (.node .leaf 28 ⟨4, true, 64, [.val (.bool false), .val nilSl, .val (.bool false), .val nilSl], .struct [(0, 26), (2, 26)]⟩ .leaf) 31 ⟨1, false, 24, [.val nilSl], .slice 43⟩ (.node .leaf 38 ⟨2, true, 32, [.val (.bool false), .val nilSl], .struct [(0, 4), (1, 24)]⟩ .leaf)))) 39 ⟨4, true, 64, [.val (.bool false), .val nilSl, .val (.bool false), .val nilSl], .struct [(0, 38), (2, 38)]⟩ (.node (.node (.node (.node (.node .leaf 40 ⟨4, true, 64, [.val (.bool false), .val nilSl, .val (.bool false), .val nilSl], .struct [(0, 38), (2, 38)]⟩ .leaf) 42 ⟨8, true, 128, [.val (.bool false), .val nilSl, .val (.bool false), .val nilSl, .val (.bool false), .val nilSl, .val (.bool false), .val nilSl], .struct [(0, 28), (4, 28)]⟩ .leaf) 43 ⟨8, true, 128, [.val (.bool false), .val nilSl, .val (.bool false), .val nilSl, .val (.bool false), .val nilSl, .val (.bool false), .val nilSl], .struct [(0, 28), (4, 28)]⟩ (.node .leaf 55 ⟨8, true, 128, [.val (.bool false), .val nilSl, .val (.bool false), .val nilSl, .val (.bool false), .val nilSl, .val (.bool false), .val nilSl], .struct [(0, 40), (4, 40)]⟩ .leaf)) 56 ⟨8, true, 128, [.val (.bool false), .val nilSl, .val (.bool false), .val nilSl, .val (.bool false), .val nilSl, .val (.bool false), .val nilSl], .struct [(0, 40), (4, 40)]⟩ (.node (.node .leaf 69 ⟨1, false, 24, [.val nilSl], .slice 31⟩ .leaf) 71 ⟨1, false, 24, [.val nilSl], .slice 28⟩ (.node .leaf 113 ⟨1, false, 8, [.val (.int .u64 0)], .scalar⟩ .leaf))) 116 ⟨1, false, 8, [.val (.int .u64 0)], .scalar⟩ (.node (.node (.node (.node .leaf 123 ⟨1, false, 24, [.val nilSl], .slice 26⟩ .leaf) 126 ⟨1, false, 4, [.val (.int .u32 0)], .scalar⟩ .leaf) 145 ⟨0, true, 0, [], .struct [(0, 144)]⟩ (.node .leaf 146 ⟨0, true, 0, [], .struct [(0, 144)]⟩ .leaf)) 147 ⟨1, false, 1, [.val (.int .u8 0)], .scalar⟩ (.node (.node .leaf 148 ⟨1, false, 1, [.val (.int .u8 0)], .scalar⟩ .leaf) 151 ⟨1, false, 4, [.val (.int .i32 0)], .scalar⟩ (.node .leaf 152 ⟨1, false, 4, [.val (.int .i32 0)], .scalar⟩ .leaf)))))
def tt (t : Nat) : Option TI := tts.get t
def inout (f : Nat) : List Nat := if f = 15 then [0] else if f = 23 then [0] else if f = 16 then [0] else if f = 44 then [0] else if f = 159 then [0] else if f = 158 then [0] else if f = 43 then [0] else []
def ioSz (f : Nat) : Nat := if f = 15 then 8 else if f = 23 then 1 else if f = 16 then 1 else if f = 44 then 1 else if f = 159 then 1 else if f = 158 then 1 else if f = 43 then 1 else 0
def ioDp (f : Nat) : List Nat := if f = 15 then [1] else []
def ioMax : Nat := 1
def ioCut (_ : Nat) : Bool := false
def passF (f : Nat) : Bool := f == 40
def revF (_ : Nat) : Bool := false
def keepAt (_ _ : Nat) : Option Nat := none
def deepAt (d n t : Nat) : Option (Nat × List Nat) := if d == 7 && n == 9 && t == 31 then some (1, []) else if d == 6 && n == 0 && t == 31 then some (1, []) else if d == 16 && n == 1 && t == 31 then some (1, []) else if d == 18 && n == 0 && t == 31 then some (1, []) else if d == 41 && n == 1 && t == 31 then some (1, []) else none
/-- A file may be made at these temporaries: rows that are lent lie below. -/
def okD (d : Nat) : Bool := !Nat.blt d ioMax && Nat.blt d 4096
end Go.VAI

namespace Go.VAI

/-- What a temporary holds. -/
inductive Slot where
  | pv (r : PV) (bs : List Nat)
  | ag (ls : List Slot)
  | own (id : Nat) (sub : Option (Nat × Nat))
  | ref (id o : Nat)
  | rref (id i o : Nat)
  | lf (id i o : Nat) (ys : List PV)
  | clo (f : FuncId) (caps : List Slot)
  | tup (ls : List Slot)
  | undef
  | dead
  deriving Inhabited

inductive RU where
  | free | sh (bs : List Nat) | deep (z : Nat) (zs : List Nat)
  deriving Inhabited

inductive File where
  | cell (ls : List Slot)
  | row (es : List PV) (sz : Nat) (u : RU) (io : Bool)
  deriving Inhabited

structure St where
  n : Nat
  slots : Nat → Slot
  files : Nat → Option File

/-- A result. -/
inductive RS where
  | pv (r : PV)
  | row (es : List PV) (sz : Nat) (u : RU)
  | ag (ls : List RS)
  | tup (ls : List RS)
  | vw (p o l : Nat)
  deriving Inhabited

inductive Ex where
  | normal | exit (id : Nat) | ret

/-- What the walk does not look into. -/
structure Ar where
  arith : BinOp → IntKind → Int → Int → Int
  divi : BinOp → IntKind → Int → Int → Int
  shift : BinOp → IntKind → Int → Int → Int
  conv : IntKind → Int → Int
  neg : IntKind → Int → Int
  cmp : BinOp → Int → Int → Bool
  bnot : Bool → Bool
  band : Bool → Bool → Bool
  beq : Bool → Bool → Bool
  mx : Int → Int → Int
  mn : Int → Int → Int
  len : List PV → Nat
  app : List PV → List PV → List PV
  setAt : List PV → Nat → PV → List PV
  sub : List PV → Nat → Nat → List PV
  rep : Nat → PV → List PV
  toN : Int → Nat
  addN : Nat → Nat → Nat
  ofN : Nat → Int
  nz : Int → (Unit → Prop) → Prop
  nn : Int → (Unit → Prop) → Prop
  fits : Nat → Nat → (Unit → Prop) → Prop
  rng : Nat → Nat → Nat → (Unit → Prop) → Prop
  spl : List PV → Nat → List PV → List PV
  subN : Nat → Nat → Nat
  idx : List PV → Nat → (PV → Prop) → Prop
  wid : List PV → Nat → Bool → (Unit → Prop) → Prop
  same : List PV → List PV → (Unit → Prop) → Prop
  isNil : List PV → (Bool → Prop) → Prop
  int : Int → (Int → Prop) → Prop
  bool : Bool → (Bool → Prop) → Prop
  nat : Nat → (Nat → Prop) → Prop
  row : List PV → (List PV → Prop) → Prop
  call : FuncId → List PV → (RS → List PV → Prop) → Prop
  pass : FuncId → List PV → (Bool → List PV → Prop) → Prop
  rev : FuncId → List PV → (List PV → Prop) → Prop
  loop : (St → (Ex → St → Prop) → Prop) → St → (Ex → St → Prop) → Prop

def upd {α : Type} (f : Nat → α) (d : Nat) (v : α) : Nat → α := fun k => if k = d then v else f k

def leaves : PV → List PV
  | .agg ls => ls
  | x => [x]

def sleaves : Slot → List Slot
  | .ag ls => ls
  | .pv (.agg ls) bs => ls.map (.pv · bs)
  | s => [s]

end Go.VAI
namespace Go.VAI

def optAll {α β : Type} (f : α → Option β) : List α → Option (List β)
  | [] => some []
  | x :: xs => match f x with
    | some y => (match optAll f xs with
      | some ys => some (y :: ys)
      | none => none)
    | none => none

def content (A : Ar) (σ : St) (id : Nat) (sub : Option (Nat × Nat)) : Option (List PV) :=
  match σ.files id with
  | some (.row es _ _ _) => (match sub with
    | none => some es
    | some (o, l) => some (A.sub es o l))
  | _ => none

def pv1 (A : Ar) (σ : St) : Slot → Option PV
  | .pv r _ => some r
  | .own id sub => (match content A σ id sub with
    | some es => some (.sl es)
    | none => none)
  | .lf id _ _ ys => (match σ.files id with
    | some (.row _ _ _ _) => some (.sl ys)
    | _ => none)
  | _ => none

def pv2 (A : Ar) (σ : St) : Slot → Option PV
  | .ag ls => (match optAll (pv1 A σ) ls with
    | some xs => some (.agg xs)
    | none => none)
  | .ref id o => (match σ.files id with
    | some (.cell ls) => (match optAll (pv1 A σ) (ls.drop o) with
      | some xs => some (.pt xs)
      | none => none)
    | _ => none)
  | s => pv1 A σ s

def isLeaf : Slot → Bool
  | .ag _ | .clo _ _ | .tup _ => false
  | _ => true

def toPV (A : Ar) (σ : St) : Slot → Option PV
  | .clo f caps => if caps.all isLeaf then (match optAll (pv2 A σ) caps with
    | some xs => some (.fn f xs)
    | none => none) else none
  | s => pv2 A σ s

def rubs : RU → List Nat
  | .free => []
  | .sh bs => bs
  | .deep _ _ => []

def isDeepU : RU → Bool
  | .deep _ _ => true
  | _ => false
/-- What a reading of row id's elements may touch, where it is not row id that is read. -/
def rubsW (id : Nat) : RU → List Nat
  | .deep _ _ => [id]
  | u => rubs u

def refs1 (σ : St) : Slot → List Nat
  | .pv _ bs => bs
  | .own id _ | .lf id _ _ _ => (match σ.files id with
    | some (.row _ _ u _) => id :: rubs u
    | _ => [id])
  | _ => []

def refs2 (σ : St) : Slot → List Nat
  | .ag ls => ls.flatMap (refs1 σ)
  | .ref id _ => (match σ.files id with
    | some (.cell ls) => id :: ls.flatMap (refs1 σ)
    | _ => [id])
  | .rref id _ _ => [id]
  | s => refs1 σ s

def refsOf (σ : St) : Slot → List Nat
  | .clo _ caps => caps.flatMap (refs2 σ)
  | s => refs2 σ s

/-- Does it hold no address? -/
def isVal : PV → Bool
  | .val _ => true
  | _ => false

def isFree : PV → Bool
  | .val _ => true
  | .agg ls => ls.all isVal
  | _ => false

def mkpv (r : PV) (bs : List Nat) : Slot := .pv r (if isFree r then [] else bs)

def isNilSl : Operand → Bool
  | .const (.slice none 0 0) => true
  | _ => false

def eval (σ : St) : Operand → Slot
  | .tmp t => σ.slots t
  | .const v => if v.oneCell' then .pv (.val v) [] else .dead
  | .func f => .pv (.fn f []) []
  | .global _ => .dead

def cls (id : Nat) : Nat := id % 4096

def dropB (d : Nat) (bs : List Nat) : List Nat := bs.filter fun i => cls i != d

/-- A map of leaves, carried through. -/
def map2 (g : Slot → Slot) : Slot → Slot
  | .ag ls => .ag (ls.map g)
  | .clo f ls => .clo f (ls.map g)
  | s => g s

def mapS (g : Slot → Slot) : Slot → Slot
  | .tup ls => .tup (ls.map (map2 g))
  | s => map2 g s

/-- Retire all files made at temporary d: what was told of them is nobody's from now on. -/
def ret1 (A : Ar) (σ : St) (d : Nat) : Slot → Slot
  | .pv r bs => .pv r (dropB d bs)
  | .own id sub => if cls id = d then (match σ.files id with
      | some (.row es _ u _) => (match sub with
        | none => .pv (.sl es) (dropB d (rubs u))
        | some (o, l) => .pv (.sl (A.sub es o l)) (dropB d (rubs u)))
      | _ => .dead) else .own id sub
  | .ref id o => if cls id = d then .dead else .ref id o
  | .rref id i o => if cls id = d then .dead else .rref id i o
  | .lf id i o ys => if cls id = d then .dead else .lf id i o ys
  | s => s

def retF (A : Ar) (σ : St) (d : Nat) : File → File
  | .cell ls => .cell (ls.map (map2 (ret1 A σ d)))
  | .row es sz (.sh bs) io => .row es sz (.sh (dropB d bs)) io
  | f => f

def retire (A : Ar) (σ : St) (d : Nat) : St :=
  { n := σ.n, slots := fun k => mapS (ret1 A σ d) (σ.slots k),
    files := fun j => if cls j = d then none else (match σ.files j with
      | some f => some (retF A σ d f)
      | none => none) }

/-- Kill what is borrowed of a file; with 'hdr' its headers, too (an append may have moved the row). -/
def kill1 (hdr : Bool) (id : Nat) : Slot → Slot
  | .pv r bs => if bs.elem id then .dead else .pv r bs
  | .own j sub => if hdr && j == id then .dead else .own j sub
  | .rref j i o => if hdr && j == id then .dead else .rref j i o
  | .lf j i o ys => if j == id then .dead else .lf j i o ys
  | s => s

def killF (hdr : Bool) (id : Nat) : File → Option File
  | .cell ls => some (.cell (ls.map (map2 (kill1 hdr id))))
  | .row es sz (.sh bs) io => if bs.elem id then none else some (.row es sz (.sh bs) io)
  | f => some f

def kill (hdr : Bool) (σ : St) (id : Nat) : St :=
  { n := σ.n, slots := fun k => mapS (kill1 hdr id) (σ.slots k),
    files := fun j => match σ.files j with
      | some f => if j = id then some f else killF hdr id f
      | none => none }

/-- File j is no file any more, and nothing speaks of it. -/
def delF (σ : St) (j : Nat) : St := { σ with files := upd σ.files j none }
def gone1 (σ : St) (j : Nat) : St := delF (kill true σ j) j
def gone (σ : St) : List Nat → St
  | [] => σ
  | j :: js => gone (gone1 σ j) js

def put (σ : St) (d : Nat) (s : Slot) : St := { σ with slots := upd σ.slots d s }
def putO (σ : St) (d : Option Nat) (s : Slot) : St := match d with
  | some d => put σ d s
  | none => σ
def putF (σ : St) (id : Nat) (f : File) : St := { σ with files := upd σ.files id (some f) }

end Go.VAI
namespace Go.VAI

/-! ### Operations -/

def intOf : Slot → Option (IntKind × Int)
  | .pv (.val (.int k n)) _ => some (k, n)
  | _ => none

def boolOf : Slot → Option Bool
  | .pv (.val (.bool b)) _ => some b
  | _ => none

def isCmp : BinOp → Bool
  | .eql | .neq | .lss | .leq | .gtr | .geq => true
  | _ => false

/-- '==' of structs whose leaves are whole numbers. -/
def eqLeaves (A : Ar) : List PV → List PV → Option Bool
  | [], [] => some true
  | .val (.int k a) :: xs, .val (.int k' b) :: ys => if k = k' then (match eqLeaves A xs ys with
      | some r => some (A.band (A.cmp .eql a b) r)
      | none => none) else none
  | _, _ => none

def aggOf : Slot → Option (List PV)
  | .pv (.agg ls) _ => some ls
  | .ag ls => optAll (fun s => match s with | .pv r _ => some r | _ => none) ls
  | _ => none

def eqFs : Nat → List (Nat × Nat) → Bool
  | _, [] => true
  | k, (o, ft) :: fs => o == k && (match tt ft with
    | some ⟨1, false, _, [.val (.int _ _)], .scalar⟩ => true
    | _ => false) && eqFs (k + 1) fs

/-- A struct of whole numbers. -/
def eqOk (t : Nat) : Bool := match tt t with
  | some ⟨n, _, _, _, .struct fs⟩ => fs.length == n && eqFs 0 fs
  | _ => false

def eqLen (t : Nat) : Nat := match tt t with
  | some i => i.size
  | none => 0

def isBoolT (t : Nat) : Bool := match tt t with
  | some ⟨_, _, _, [.val (.bool _)], .scalar⟩ => true
  | _ => false

def binS (A : Ar) (op : BinOp) (t : Nat) (x y : Slot) (K : PV → Prop) : Prop :=
  match intOf x, intOf y with
  | some (k, a), some (k', b) => (match op with
    | .shl => A.nn b (fun _ => A.int (A.shift .shl k a b) (fun r => K (.val (.int k r))))
    | .shr => A.nn b (fun _ => A.int (A.shift .shr k a b) (fun r => K (.val (.int k r))))
    | .add => if k = k' then A.int (A.arith .add k a b) (fun r => K (.val (.int k r))) else False
    | .sub => if k = k' then A.int (A.arith .sub k a b) (fun r => K (.val (.int k r))) else False
    | .mul => if k = k' then A.int (A.arith .mul k a b) (fun r => K (.val (.int k r))) else False
    | .or => if k = k' then A.int (A.arith .or k a b) (fun r => K (.val (.int k r))) else False
    | .and => if k = k' then A.int (A.arith .and k a b) (fun r => K (.val (.int k r))) else False
    | .quo => if k = k' then A.nz b (fun _ => A.int (A.divi .quo k a b) (fun r => K (.val (.int k r)))) else False
    | .rem => if k = k' then A.nz b (fun _ => A.int (A.divi .rem k a b) (fun r => K (.val (.int k r)))) else False
    | .eql => if k = k' then A.bool (A.cmp .eql a b) (fun r => K (.val (.bool r))) else False
    | .neq => if k = k' then A.bool (A.cmp .neq a b) (fun r => K (.val (.bool r))) else False
    | .lss => if k = k' then A.bool (A.cmp .lss a b) (fun r => K (.val (.bool r))) else False
    | .leq => if k = k' then A.bool (A.cmp .leq a b) (fun r => K (.val (.bool r))) else False
    | .gtr => if k = k' then A.bool (A.cmp .gtr a b) (fun r => K (.val (.bool r))) else False
    | .geq => if k = k' then A.bool (A.cmp .geq a b) (fun r => K (.val (.bool r))) else False
    | _ => False)
  | _, _ => (match boolOf x, boolOf y with
    | some a, some b => if isBoolT t then (match op with
      | .eql => A.bool (A.beq a b) (fun r => K (.val (.bool r)))
      | .neq => A.bool (A.bnot (A.beq a b)) (fun r => K (.val (.bool r)))
      | _ => False) else False
    | _, _ => if eqOk t then (match aggOf x, aggOf y with
      | some xs, some ys => if xs.length = eqLen t then (match eqLeaves A xs ys with
        | some r => (match op with
          | .eql => A.bool r (fun r => K (.val (.bool r)))
          | .neq => A.bool (A.bnot r) (fun r => K (.val (.bool r)))
          | _ => False)
        | none => False) else False
      | _, _ => False) else False)

def unS (A : Ar) (op : UnOp) (x : Slot) (K : PV → Prop) : Prop :=
  match op, intOf x, boolOf x with
  | .neg, some (k, n), _ => A.int (A.neg k n) (fun r => K (.val (.int k r)))
  | .not, _, some b => A.bool (A.bnot b) (fun r => K (.val (.bool r)))
  | _, _, _ => False

/-- Leaves o .. o+n of a list. -/
def prt {α : Type} (o n : Nat) (l : List α) : List α := (l.drop o).take n

def splice {α : Type} (o : Nat) (xs l : List α) : List α := l.take o ++ xs ++ l.drop (o + xs.length)

/-- A value out of leaves. -/
def ofLeaves (ag : Bool) (ls : List PV) : Option PV :=
  if ag then some (.agg ls) else (match ls with
    | [x] => some x
    | _ => none)

def ofSleaves (ag : Bool) (ls : List Slot) : Option Slot :=
  if ag then some (.ag ls) else (match ls with
    | [x] => if isLeaf x then some x else none
    | _ => none)

def isTup : Slot → Bool
  | .tup _ => true
  | _ => false

/-- What was read out of a row: the header of a row of its own, or a value. -/
def hdrK (u : RU) (t : TI) (id i o : Nat) (r : PV) (K : Slot → Prop) : Prop := match isDeepU u, r with
  | true, .sl ys => if t.size = 1 then K (.lf id i o ys) else False
  | _, _ => K (mkpv r (id :: rubs u))

def loadS (A : Ar) (σ : St) (t : TI) (a : Slot) (K : Slot → Prop) : Prop :=
  match a with
  | .ref id o => (match σ.files id with
    | some (.cell ls) => if o + t.size ≤ ls.length then (match ofSleaves t.ag (prt o t.size ls) with
        | some s => K s
        | none => False) else False
    | _ => False)
  | .rref id i o => (match σ.files id with
    | some (.row es _ u _) => A.idx es i (fun x => if o + t.size ≤ (leaves x).length then (match ofLeaves t.ag (prt o t.size (leaves x)) with
        | some r => hdrK u t id i o r K
        | none => False) else False)
    | _ => False)
  | .pv (.pt ls) bs => if t.size ≤ ls.length then (match ofLeaves t.ag (prt 0 t.size ls) with
        | some r => K (mkpv r bs)
        | none => False) else False
  | _ => False

def noTup : Slot → Bool
  | .pv (.agg _) _ => false
  | .pv _ _ | .own _ _ | .ref _ _ | .rref _ _ _ => true
  | _ => false

/-- A leaf that may stand in a cell. -/
def liveS (σ : St) : Slot → Bool
  | .pv (.agg _) _ => false
  | .pv _ _ => true
  | .own id _ | .rref id _ _ => (match σ.files id with
    | some (.row _ _ _ _) => true
    | _ => false)
  | .ref id _ => (match σ.files id with
    | some (.cell _) => true
    | _ => false)
  | _ => false

def isAg : PV → Bool
  | .agg _ => true
  | _ => false

def notAgg : PV → Bool
  | .agg _ => false
  | _ => true

def ruJoin (u : RU) (free : Bool) (bs : List Nat) : RU := if free then u else .sh (bs ++ rubs u)

/-- A leaf that goes over into a deep row: a value, or a row of one's own with the levels zs below. -/
def take1 (σ : St) (z : Nat) (zs : List Nat) : Slot → Option (PV × List Nat)
  | .pv (.val v) _ => some (.val v, [])
  | .own j none => (match σ.files j with
    | some (.row es sz u false) => if sz == z then (match u, zs with
      | .free, [] => some (.sl es, [j])
      | .deep z1 zs1, z2 :: zs2 => if z1 == z2 && zs1 == zs2 then some (.sl es, [j]) else none
      | _, _ => none) else none
    | _ => none)
  | _ => none

def takeL (σ : St) (z : Nat) (zs : List Nat) : List Slot → Option (List PV × List Nat)
  | [] => some ([], [])
  | s :: ls => (match take1 σ z zs s, takeL σ z zs ls with
    | some (y, js), some (ys, ks) => some (y :: ys, js ++ ks)
    | _, _ => none)

def nodupN : List Nat → Bool
  | [] => true
  | i :: l => !l.elem i && nodupN l

/-- The files that a store into a deep row of one's own takes over. -/
def absorbs (σ : St) (id : Nat) (u : RU) (io : Bool) (x : Slot) : Option (List Nat) :=
  match u, io with
  | .deep z zs, false => (match takeL σ z zs (sleaves x) with
    | some (_, j :: js) => if nodupN (j :: js) && !(j :: js).elem id then some (j :: js) else none
    | _ => none)
  | _, _ => none

/-- A store: the new state. -/
def storeS (A : Ar) (σ : St) (t : TI) (a x : Slot) (K : St → Prop) : Prop :=
  match a with
  | .ref id o => (match σ.files id with
    | some (.cell ls) => if (sleaves x).length = t.size ∧ o + t.size ≤ ls.length ∧ (sleaves x).all (liveS σ) then
        K (putF (kill false σ id) id (.cell (splice o ((sleaves x).map (kill1 false id)) (ls.map (kill1 false id))))) else False
    | _ => False)
  | .rref id i o => (match σ.files id, pv2 A σ x with
    | some (.row es sz u io), some r => (match absorbs σ id u io x with
      | some js => A.idx es i (fun y => if t.size ≠ 0 ∧ (leaves r).length = t.size ∧ o + t.size ≤ (leaves y).length ∧ (leaves r).all notAgg then
        (match ofLeaves (isAg y) (splice o (leaves r) (leaves y)) with
          | some y' => A.row (A.setAt es i y') (fun es' => K (putF (kill false (gone σ js) id) id (.row es' sz u io)))
          | none => False) else False)
      | none => A.idx es i (fun y => if t.size ≠ 0 ∧ (leaves r).length = t.size ∧ o + t.size ≤ (leaves y).length ∧ ¬ (refs2 σ x).elem id ∧ (leaves r).all notAgg ∧ ((!io && !isDeepU u) || isFree r) then
        (match ofLeaves (isAg y) (splice o (leaves r) (leaves y)) with
          | some y' => A.row (A.setAt es i y') (fun es' => K (putF (kill false σ id) id (.row es' sz (ruJoin u (isFree r) (refs2 σ x)) io)))
          | none => False) else False))
    | _, _ => False)
  | _ => False

def fieldOf (t : TI) (f : Nat) : Option (Nat × Nat) := match t.kind with
  | .struct fs => fs[f]?
  | _ => none

def elemOf (t : Nat) : Option (Nat × TI) := match tt t with
  | some ⟨_, _, _, _, .slice e⟩ => (match tt e with
    | some i => some (e, i)
    | none => none)
  | _ => none

def fieldAddrS (t : TI) (x : Slot) (f : Nat) : Option Slot := match fieldOf t f with
  | some (o, ft) => (match tt ft with
    | some j => if j.size = 0 then none else (match x with
      | .ref id p => some (.ref id (p + o))
      | .rref id i p => some (.rref id i (p + o))
      | .pv (.pt ls) bs => if o ≤ ls.length then some (.pv (.pt (ls.drop o)) bs) else none
      | _ => none)
    | none => none)
  | none => none

def fieldS (t : TI) (x : Slot) (f : Nat) : Option Slot := match fieldOf t f with
  | some (o, ft) => (match tt ft with
    | some i => (match x with
      | .ag ls => if o + i.size ≤ ls.length then ofSleaves i.ag (prt o i.size ls) else none
      | .pv (.agg ls) bs => if o + i.size ≤ ls.length then (match ofLeaves i.ag (prt o i.size ls) with
          | some r => some (mkpv r bs)
          | none => none) else none
      | _ => none)
    | none => none)
  | none => none

/-- '&x[i]' of a slice. -/
def indexAddrS (A : Ar) (σ : St) (e : TI) (x i : Slot) (K : Slot → Prop) : Prop :=
  match intOf i with
  | some (_, n) => A.nn n (fun _ => A.nat (A.toN n) (fun j => match x with
    | .own id sub => (match σ.files id with
      | some (.row es sz _ _) => if sz = e.size then (match sub with
          | none => A.idx es j (fun _ => K (.rref id j 0))
          | some (o, l) => A.idx (A.sub es o l) j (fun _ => A.nat (A.addN o j) (fun p => K (.rref id p 0)))) else False
      | _ => False)
    | .pv (.sl es) bs => A.idx es j (fun y => if (leaves y).length = e.size then K (.pv (.pt (leaves y)) bs) else False)
    | _ => False))
  | none => False

end Go.VAI
namespace Go.VAI

/-- Before a file is made at temporary d. -/
def mkF (A : Ar) (σ : St) (d : Nat) (K : St → Prop) : Prop := if okD d then K (retire A σ d) else False

def adopt1 (d : Nat) (bs : List Nat) (c : Nat) : RS → Slot × List (Nat × File) × Nat
  | .pv r => (mkpv r bs, [], c)
  | .row es sz .free => (.own (d + 4096 * c) none, [(d + 4096 * c, .row es sz .free false)], c + 1)
  | .row es sz (.sh _) => (.own (d + 4096 * c) none, [(d + 4096 * c, .row es sz (.sh bs) false)], c + 1)
  | .row es sz (.deep z zs) => (.own (d + 4096 * c) none, [(d + 4096 * c, .row es sz (.deep z zs) false)], c + 1)
  | _ => (.dead, [], c)

def adoptL (f : Nat → RS → Slot × List (Nat × File) × Nat) (c : Nat) : List RS → List Slot × List (Nat × File) × Nat
  | [] => ([], [], c)
  | x :: xs => match f c x with
    | (s, fs, c1) => (match adoptL f c1 xs with
      | (ss, fs2, c2) => (s :: ss, fs ++ fs2, c2))

def adopt2 (d : Nat) (bs : List Nat) (c : Nat) : RS → Slot × List (Nat × File) × Nat
  | .ag ls => (match adoptL (adopt1 d bs) c ls with
    | (ss, fs, c') => (.ag ss, fs, c'))
  | x => adopt1 d bs c x

def adopt (d : Nat) (bs : List Nat) : RS → Slot × List (Nat × File)
  | .tup ls => (match adoptL (adopt2 d bs) 0 ls with
    | (ss, fs, _) => (.tup ss, fs))
  | x => (match adopt2 d bs 0 x with
    | (s, fs, _) => (s, fs))

def putFs (σ : St) : List (Nat × File) → St
  | [] => σ
  | (id, f) :: fs => putFs (putF σ id f) fs

/-- The file of the row that a slot may lend: free of addresses, or with its own rows below. -/
def lend1 (σ : St) (sz : Nat) (zs : List Nat) : Slot → Option Nat
  | .own id sub => (match σ.files id with
    | some (.row _ sz' u _) => if sz' == sz then (match u, zs, sub with
      | .free, [], _ => some id
      | .deep z zs', z1 :: zs1, none => if z == z1 && zs' == zs1 then some id else none
      | _, _, _ => none) else none
    | _ => none)
  | .lf id _ _ _ => (match σ.files id with
    | some (.row _ _ (.deep z zs') _) => if z == sz && zs' == zs then some id else none
    | _ => none)
  | _ => none

def lendL (σ : St) : List Slot → Option (List Nat)
  | [] => some []
  | s :: ls => (match s with
    | .pv (.val _) _ => lendL σ ls
    | .own id sub => (match lend1 σ 1 [] (.own id sub), lendL σ ls with
      | some id, some ids => some (id :: ids)
      | _, _ => none)
    | _ => none)

def lendP (σ : St) (sz : Nat) (zs : List Nat) : Slot → Option (List Nat)
  | .ag ls => lendL σ ls
  | s => (match lend1 σ sz zs s with
    | some id => some [id]
    | none => none)

def nodupL : List Nat → Bool
  | [] => true
  | i :: l => !l.elem i && nodupL l

/-- May the row at this place be lent for writing? It is one of the call's own, and no other argument's. -/
def lendOk (σ : St) (args : List Slot) (sz : Nat) (zs : List Nat) : List Nat → Bool
  | [] => true
  | [p] => (match args[p]? with
    | some s => (match lendP σ sz zs s with
      | some ids => nodupL ids && Nat.blt p ioMax && Nat.blt p 4096 && (args.zipIdx.all fun (s, j) => j == p || ids.all fun id => !(refsOf σ s).elem id)
      | none => false)
    | none => false)
  | _ => false

/-- A row that a callee has written. -/
def apply1 (A : Ar) (σ : St) (s : Slot) (es' : List PV) (K : St → Prop) : Prop :=
  match s with
  | .own id sub => (match σ.files id with
    | some (.row es sz u io) => (match sub with
      | none => K (putF (kill false σ id) id (.row es' sz u io))
      | some (o, _) => A.row (A.spl es o es') (fun r => K (putF (kill false σ id) id (.row r sz u io))))
    | _ => False)
  | .lf id i o _ => (match σ.files id with
    | some (.row es sz u io) => A.idx es i (fun x => match ofLeaves (isAg x) (splice o [.sl es'] (leaves x)) with
      | some x' => A.row (A.setAt es i x') (fun r => K (putF (kill false σ id) id (.row r sz u io)))
      | none => False)
    | _ => False)
  | _ => False

def applyL (A : Ar) : List Slot → List PV → St → (St → Prop) → Prop
  | [], [], σ, K => K σ
  | s :: ls, x :: xs, σ, K => (match x with
    | .sl es' => apply1 A σ s es' (fun σ' => applyL A ls xs σ' K)
    | _ => applyL A ls xs σ K)
  | _, _, _, _ => False

def applyP (A : Ar) (σ : St) (s : Slot) (out : PV) (K : St → Prop) : Prop :=
  match s, out with
  | .ag ls, .agg xs => applyL A ls xs σ K
  | .ag _, _ => False
  | s, .sl es' => apply1 A σ s es' K
  | _, _ => False

/-- The rows that a callee has written. -/
def applyOuts (A : Ar) (args : List Slot) : List Nat → List PV → St → (St → Prop) → Prop
  | [], [], σ, K => K σ
  | [p], [out], σ, K => (match args[p]? with
    | some s => applyP A σ s out K
    | none => False)
  | _, _, _, _ => False

def isVw : List Nat → RS → Option (Nat × Nat × Nat)
  | _ :: _, .vw p o l => some (p, o, l)
  | _, _ => none

def callS (A : Ar) (d : Nat) (f : FuncId) (args : List Slot) (σ : St) (K : St → Prop) : Prop :=
  match optAll (toPV A σ) args with
  | some ps => if lendOk σ args (ioSz f) (ioDp f) (inout f) then A.call f ps (fun rs outs => applyOuts A args (inout f) outs σ (fun σ' => match isVw (inout f) rs with
        | some (p, o, l) => (match args[p]? with
          | some (.own id none) => K (put σ' d (.own id (some (o, l))))
          | _ => False)
        | none => (match adopt d (args.flatMap (refsOf σ)) rs with
          | (s, fs) => K (put (putFs σ' fs) d s)))) else False
  | none => False

def slOf : PV → Option (List PV)
  | .sl es => some es
  | .val (.slice none 0 0) => some []
  | _ => none

def lenS (A : Ar) (σ : St) : Slot → Option Nat
  | .own id sub => (match σ.files id with
    | some (.row es _ _ _) => (match sub with
      | none => some (A.len es)
      | some (_, l) => some l)
    | _ => none)
  | .pv (.sl es) _ => some (A.len es)
  | .pv (.val (.slice _ n _)) _ => some n
  | .lf id _ _ ys => (match σ.files id with
    | some (.row _ _ _ _) => some (A.len ys)
    | _ => none)
  | _ => none

def allFree (es : List PV) : Bool := es.all isFree

def isFreeU : RU → Bool
  | .free => true
  | _ => false

def eFree (e : TI) : Bool := e.zero.all fun z => match z with
  | .val (.int _ _) | .val (.bool _) => true
  | _ => false

/-- What an append takes over: the elements; are they free of addresses; what they may touch. -/
def widS (A : Ar) (σ : St) (e : TI) (y : Slot) (K : List PV → Bool → List Nat → Prop) : Prop :=
  match y with
  | .own id sub => (match σ.files id with
    | some (.row es sz u _) => if sz = e.size then (match sub with
      | none => K es (isFreeU u) (rubsW id u)
      | some (o, l) => A.row (A.sub es o l) (fun r => K r (isFreeU u) (rubsW id u))) else False
    | _ => False)
  | .pv (.sl es) bs => A.wid es e.size (eFree e) (fun _ => K es (eFree e) bs)
  | .pv (.val (.slice none 0 0)) _ => K [] true []
  | _ => False

def appendNew (A : Ar) (e : TI) (d : Nat) (ys : List PV) (fl : Bool) (bs : List Nat) (σ : St) (K : St → Prop) : Prop :=
  if bs.any (fun i => cls i == d) then False else mkF A σ d (fun σ => K (put (putF σ d (.row ys e.size (ruJoin .free fl bs) false)) d (.own d none)))

/-- Rows of rows: what the second holds goes over to the first. -/
def deepPair (σ : St) (sz : Nat) (x y : Slot) : Option (Nat × Nat × List PV × List PV × Nat × List Nat) :=
  match x, y with
  | .own id none, .own j none => (match σ.files id, σ.files j with
    | some (.row es s1 (.deep z zs) false), some (.row ys s2 (.deep z' zs') false) => if s1 == sz && s2 == sz && z == z' && zs == zs' && id != j then some (id, j, es, ys, z, zs) else none
    | _, _ => none)
  | _, _ => none

/-- append(x, y...) -/
def appendS (A : Ar) (e : TI) (d : Nat) (x y : Slot) (σ : St) (K : St → Prop) : Prop :=
  match deepPair σ e.size x y with
  | some (id, j, es, ys, z, zs) => A.row (A.app es ys) (fun r => A.fits (A.len r) e.bytes (fun _ => K (put (putF (kill true (gone σ [j]) id) id (.row r e.size (.deep z zs) false)) d (.own id none))))
  | none => widS A σ e y (fun ys fl bs => match x with
      | .own id sub => (match σ.files id with
        | some (.row es sz u io) => if sz = e.size then (match io with
            | false => if (refs1 σ y).elem id || bs.elem id || isDeepU u then False else (match sub with
              | none => A.row (A.app es ys) (fun r => A.fits (A.len r) e.bytes (fun _ => K (put (putF (kill true σ id) id (.row r sz (ruJoin u fl bs) io)) d (.own id none))))
              | some (0, l) => A.row (A.app (A.sub es 0 l) ys) (fun r => A.fits (A.len r) e.bytes (fun _ => K (put (putF (kill true σ id) id (.row r sz (ruJoin u fl bs) io)) d (.own id none))))
              | _ => False)
            | true => (match u, sub, fl with
              | .free, some (o, l), true => A.rng 0 (A.addN (A.addN o l) (A.len ys)) (A.len es) (fun _ => A.row (A.spl es (A.addN o l) ys) (fun r => A.nat (A.addN l (A.len ys)) (fun m => K (put (putF (kill false σ id) id (.row r sz .free io)) d (.own id (some (o, m)))))))
              | _, _, _ => False)) else False
        | _ => False)
      | .pv (.val (.slice none 0 0)) _ => A.fits (A.len ys) e.bytes (fun _ => appendNew A e d ys fl bs σ K)
      | _ => False)

/-- clear(x) -/
def clearS (A : Ar) (e : TI) (x : Slot) (σ : St) (K : St → Prop) : Prop :=
  match x with
  | .own id (some (o, l)) => (match σ.files id with
    | some (.row es sz .free io) => if sz = e.size then (match ofLeaves e.ag e.zero with
      | some z => A.row (A.spl es o (A.rep l z)) (fun r => K (putF (kill false σ id) id (.row r sz .free io)))
      | none => False) else False
    | _ => False)
  | _ => False

def isNilPV : Slot → Bool
  | .pv (.val (.slice none 0 0)) _ => true
  | _ => false

def isIntT (t : Nat) : Bool := match tt t with
  | some ⟨_, _, _, [.val (.int .i64 _)], .scalar⟩ => true
  | _ => false

/-- append(nil, make([]T, n)...) -/
def appendZ (A : Ar) (e : TI) (d : Nat) (x y : Slot) (σ : St) (K : St → Prop) : Prop :=
  if isNilPV x then (match intOf y, ofLeaves e.ag e.zero with
    | some (.i64, n), some z => if e.size = 0 then False else A.nn n (fun _ => A.nat (A.toN n) (fun m => A.fits m e.bytes (fun _ => A.row (A.rep m z) (fun r => appendNew A e d r true [] σ K))))
    | _, _ => False) else False

def bound (σ : St) (A : Ar) : Option Operand → Nat → (Nat → Prop) → Prop
  | none, dflt, K => K dflt
  | some o, _, K => (match intOf (eval σ o) with
    | some (_, n) => A.nn n (fun _ => A.nat (A.toN n) K)
    | none => False)

def sliceS (A : Ar) (σ : St) (e : TI) (x : Slot) (lo hi : Option Operand) (K : Slot → Prop) : Prop :=
  match x with
  | .own id sub => (match σ.files id with
    | some (.row es sz _ _) => if sz = e.size then (match sub with
      | none => A.nat (A.len es) (fun n => bound σ A hi n (fun h => bound σ A lo 0 (fun l => A.rng l h n (fun _ => A.nat (A.subN h l) (fun m => K (.own id (some (l, m))))))))
      | some (o, n) => A.nat (A.subN (A.len es) o) (fun q => bound σ A hi n (fun h => bound σ A lo 0 (fun l => A.rng l h q (fun _ => A.nat (A.addN o l) (fun p => A.nat (A.subN h l) (fun m => K (.own id (some (p, m)))))))))) else False
    | _ => False)
  | .pv (.sl es) bs => A.wid es e.size false (fun _ => A.nat (A.len es) (fun n => bound σ A hi n (fun h => bound σ A lo 0 (fun l => A.rng l h n (fun _ => A.row (A.sub es l (A.subN h l)) (fun r => K (.pv (.sl r) bs)))))))
  | .pv (.val (.slice none 0 0)) _ => bound σ A hi 0 (fun h => bound σ A lo 0 (fun l => A.rng l h 0 (fun _ => K (.pv (.val (.slice none 0 0)) []))))
  | _ => False

/-- x[lo:hi:mx] of a whole row, of which the bounds alone matter. -/
def slice3S (A : Ar) (σ : St) (e : TI) (x : Slot) (lo hi mx : Operand) (K : Unit → Prop) : Prop :=
  match x with
  | .own id none => (match σ.files id with
    | some (.row es sz _ _) => if sz = e.size then bound σ A (some mx) 0 (fun m => bound σ A (some hi) 0 (fun h => bound σ A (some lo) 0 (fun l => A.rng l h m (fun _ => A.rng h m (A.len es) K)))) else False
    | _ => False)
  | _ => False

def partsOf (A : Ar) (σ : St) (e : TI) : Nat → List (Nat × Operand) → Option (List PV)
  | _, [] => some []
  | k, (i, x) :: ps => if i = k then (match pv2 A σ (eval σ x) with
    | some r => if (leaves r).length = e.size ∧ (leaves r).all notAgg then (match partsOf A σ e (k + 1) ps with
      | some rs => some (r :: rs)
      | none => none) else none
    | none => none) else none

def fillS (t : TI) (σ : St) : List (Nat × Operand) → List Slot → Option (List Slot)
  | [], acc => some acc
  | (i, x) :: ps, acc => (match fieldOf t i with
    | some (o, ft) => (match tt ft with
      | some fi => if (sleaves (eval σ x)).length = fi.size ∧ o + fi.size ≤ acc.length ∧ (sleaves (eval σ x)).all (liveS σ) then fillS t σ ps (splice o (sleaves (eval σ x)) acc) else none
      | none => none)
    | none => none)

def sameOp : Operand → Operand → Bool
  | .tmp a, .tmp b => a == b
  | .const (.int .i64 a), .const (.int .i64 b) => a == b
  | _, _ => false

def convS (A : Ar) (dst : Nat) (x : Slot) (K : PV → Prop) : Prop :=
  match tt dst, intOf x with
  | some ⟨_, _, _, [.val (.int k _)], .scalar⟩, some (_, n) => A.int (A.conv k n) (fun r => K (.val (.int k r)))
  | _, _ => False

def capsOf : Slot → Option (FuncId × List Slot)
  | .pv (.fn f caps) bs => some (f, caps.map (mkpv · bs))
  | .clo f caps => some (f, caps)
  | _ => none

def sliceOf (A : Ar) (σ : St) : Slot → Option (List PV)
  | .pv (.sl es) _ => some es
  | .own id sub => content A σ id sub
  | _ => none

/-- A slice held against nil: of an empty one nothing is known. -/
def nilCmp (A : Ar) (σ : St) (op : BinOp) (x : Slot) (K : Bool → Prop) : Prop :=
  match sliceOf A σ x with
  | some es => A.isNil es (fun b => match op with
    | .eql => K b
    | .neq => K (!b)
    | _ => False)
  | none => False

/-- Before a call that lends the beginning of a row of its own, and gets a view of it back: what lies behind is given up. -/
def cutA (A : Ar) (c : Call) (σ : St) (K : St → Prop) : Prop :=
  match c.callee, c.args.toList with
  | .value (.func f), .tmp t :: _ => if ioCut f && !(inout f).isEmpty && Nat.blt t σ.n then (match σ.slots t with
    | .own id (some (0, l)) => (match σ.files id with
      | some (.row es sz u false) => if isDeepU u then False else A.row (A.sub es 0 l) (fun r => K (put (putF (kill true σ id) id (.row r sz u false)) t (.own id none)))
      | _ => K σ)
    | _ => K σ) else K σ
  | _, _ => K σ

def rn (d d' j : Nat) : Nat := if j = d then d' else j
/-- File d goes by the name d' from now on. -/
def ren1 (d d' : Nat) : Slot → Slot
  | .pv r bs => if bs.elem d' then .dead else .pv r (bs.map (rn d d'))
  | .own id sub => if id = d' then .dead else .own (rn d d' id) sub
  | .ref id o => if id = d' then .dead else .ref (rn d d' id) o
  | .rref id i o => if id = d' then .dead else .rref (rn d d' id) i o
  | .lf id i o ys => if id = d' then .dead else .lf (rn d d' id) i o ys
  | s => s
def renF (d d' : Nat) : File → Option File
  | .cell ls => some (.cell (ls.map (map2 (ren1 d d'))))
  | .row es sz (.sh bs) io => if bs.elem d' then none else some (.row es sz (.sh (bs.map (rn d d'))) io)
  | f => some f
def renS (σ : St) (d d' : Nat) : St :=
  { n := σ.n, slots := fun k => mapS (ren1 d d') (σ.slots k),
    files := fun j => if j = d then none else (match σ.files (if j = d' then d else j) with
      | some f => renF d d' f
      | none => none) }

def kid (d : Nat) : Nat := d + 2048
/-- The variable for whose sake what was made at this place is kept. -/
def keepOp (o : Oper) : Option Nat := match (match o.op with
  | .buildSlice _ 0 _ => true
  | .assign x => isNilSl x
  | _ => false), o.dst with
  | true, some d => keepAt d o.type
  | _, _ => none
/-- What was made at this place is kept under another name, before it is made anew. -/
def keepA (A : Ar) (o : Oper) (σ : St) (K : St → Prop) : Prop :=
  match keepOp o, o.dst with
  | some v, some d => (match σ.slots v with
    | .own id _ => if id = d then mkF A σ (kid d) (fun σ => if okD d then K (renS σ d (kid d)) else False) else K σ
    | _ => K σ)
  | _, _ => K σ

/-- One operation. -/
def aopI (A : Ar) (o : Oper) (σ : St) (K : St → Prop) : Prop :=
  match o.op with
  | .move x | .assign x => if isNilSl x then (match o.dst, elemOf o.type with
      | some d, some (_, e) => mkF A σ d (fun σ => K (put (putF σ d (.row [] e.size .free false)) d (.own d none)))
      | _, _ => False) else K (putO σ o.dst (eval σ x))
  | .pick c a b => (match boolOf (eval σ c) with
      | some t => (match t with
        | true => K (putO σ o.dst (eval σ a))
        | false => K (putO σ o.dst (eval σ b)))
      | none => False)
  | .alloc t => (match o.dst, tt t with
      | some d, some i => mkF A σ d (fun σ => K (put (putF σ d (.cell (i.zero.map (.pv · [])))) d (.ref d 0)))
      | _, _ => False)
  | .box t x => (match o.dst, tt t with
      | some d, some i => mkF A σ d (fun σ => if (sleaves (eval σ x)).length = i.size ∧ (sleaves (eval σ x)).all (liveS σ) then K (put (putF σ d (.cell (sleaves (eval σ x)))) d (.ref d 0)) else False)
      | _, _ => False)
  | .build t ps => (match o.dst, tt t with
      | some d, some i => (match fillS i σ ps.toList (i.zero.map (.pv · [])) with
        | some ls => if i.ag then K (put σ d (.ag ls)) else False
        | none => False)
      | _, _ => False)
  | .buildSlice t n ps => (match o.dst, elemOf t with
      | some d, some (_, e) => if ps.size = n ∧ n * e.size ≤ 16777216 ∧ e.size ≠ 0 then mkF A σ d (fun σ => match partsOf A σ e 0 ps.toList with
        | some es => K (put (putF σ d (.row es e.size (ruJoin .free (allFree es) (ps.toList.flatMap fun p => refs2 σ (eval σ p.2))) false)) d (.own d none))
        | none => False) else False
      | _, _ => False)
  | .load t a => (match tt t with
      | some i => loadS A σ i (eval σ a) (fun s => K (putO σ o.dst s))
      | none => False)
  | .store t a x => (match tt t with
      | some i => storeS A σ i (eval σ a) (eval σ x) (fun σ' => K (putO σ' o.dst .undef))
      | none => False)
  | .binOp op t x y _ => if isNilSl y then (match elemOf t with
      | some _ => nilCmp A σ op (eval σ x) (fun b => K (putO σ o.dst (.pv (.val (.bool b)) [])))
      | none => False) else binS A op t (eval σ x) (eval σ y) (fun r => K (putO σ o.dst (.pv r [])))
  | .unOp op _ x => unS A op (eval σ x) (fun r => K (putO σ o.dst (.pv r [])))
  | .convert t' t x => (match tt t' with
      | some _ => convS A t (eval σ x) (fun r => K (putO σ o.dst (.pv r [])))
      | none => False)
  | .makeFunc (.func f) first caps => if first.isEmpty && (caps.toList.map (eval σ)).all isLeaf then K (putO σ o.dst (.clo f (caps.toList.map (eval σ)))) else False
  | .makeSlice t l c => (match o.dst, elemOf t, intOf (eval σ l) with
      | some d, some (_, e), some (_, n) => if sameOp l c then (match ofLeaves e.ag e.zero with
          | some z => A.nn n (fun _ => A.nat (A.toN n) (fun m => A.fits m e.bytes (fun _ => A.row (A.rep m z) (fun r => mkF A σ d (fun σ => K (put (putF σ d (.row r e.size .free false)) d (.own d none)))))))
          | none => False) else False
      | _, _, _ => False)
  | .slice t x lo hi mx => (match mx, elemOf t with
      | none, some (_, e) => sliceS A σ e (eval σ x) lo hi (fun s => K (putO σ o.dst s))
      | some m, some (_, e) => (match lo, hi with
        | some l, some h => slice3S A σ e (eval σ x) l h m (fun _ => K (putO σ o.dst .dead))
        | _, _ => False)
      | _, _ => False)
  | .fieldAddr t x f => (match tt t with
      | some i => if liveS σ (eval σ x) then (match fieldAddrS i (eval σ x) f with
        | some s => K (putO σ o.dst s)
        | none => False) else False
      | none => False)
  | .field t x f => (match tt t with
      | some i => (match fieldS i (eval σ x) f with
        | some s => K (putO σ o.dst s)
        | none => False)
      | none => False)
  | .indexAddr t x i => (match elemOf t with
      | some (_, e) => indexAddrS A σ e (eval σ x) (eval σ i) (fun s => K (putO σ o.dst s))
      | none => False)
  | .extract t i => (match eval σ t with
      | .tup ls => (match ls[i]? with
        | some s => if isTup s then False else K (putO σ o.dst s)
        | none => False)
      | _ => False)
  | .call c => (match c.callee with
      | .value fv => (match o.dst with
        | some d => cutA A c σ (fun σ => mkF A σ d (fun σ => match capsOf (eval σ fv) with
          | some (f, caps) => callS A d f (c.args.toList.map (eval σ) ++ caps) σ K
          | none => False))
        | none => False)
      | .builtin .len => (match c.args.toList, c.argTypes.toList with
        | [x], [t] => (match elemOf t, lenS A σ (eval σ x) with
          | some _, some n => A.int (A.ofN n) (fun r => K (putO σ o.dst (.pv (.val (.int .i64 r)) [])))
          | _, _ => False)
        | _, _ => False)
      | .builtin .max => (match c.args.toList with
        | [x, y] => (match intOf (eval σ x), intOf (eval σ y) with
          | some (k, a), some (k', b) => if k = k' then A.int (A.mx a b) (fun r => K (putO σ o.dst (.pv (.val (.int k r)) []))) else False
          | _, _ => False)
        | _ => False)
      | .builtin .min => (match c.args.toList with
        | [x, y] => (match intOf (eval σ x), intOf (eval σ y) with
          | some (k, a), some (k', b) => if k = k' then A.int (A.mn a b) (fun r => K (putO σ o.dst (.pv (.val (.int k r)) []))) else False
          | _, _ => False)
        | _ => False)
      | .builtin .cap => (match c.args.toList, c.argTypes.toList with
        | [x], [t] => (match elemOf t, isNilPV (eval σ x) with
          | some _, true => K (putO σ o.dst (.pv (.val (.int .i64 0)) []))
          | _, _ => False)
        | _, _ => False)
      | .builtin .clear => (match o.dst, c.args.toList, c.argTypes.toList with
        | none, [x], [t] => (match elemOf t with
          | some (_, e) => clearS A e (eval σ x) σ K
          | none => False)
        | _, _, _ => False)
      | .builtin .append => (match o.dst, c.args.toList, c.argTypes.toList with
        | some d, [x, y], [t, t'] => if t = t' then (match elemOf t with
            | some (_, e) => appendS A e d (eval σ x) (eval σ y) σ K
            | none => False) else (match elemOf t, isIntT t' with
            | some (_, e), true => appendZ A e d (eval σ x) (eval σ y) σ K
            | _, _ => False)
        | _, _, _ => False)
      | _ => False)
  | _ => False

/-- Is the row that is made here one with its own rows below? -/
def deepOp (o : Oper) : Option (Nat × List Nat) :=
  match (match o.op with
  | .buildSlice _ n _ => some n
  | .makeSlice _ _ _ => some 9
  | _ => none), o.dst with
  | some n, some d => deepAt d n o.type
  | _, _ => none

def takeP (σ : St) (z : Nat) (zs : List Nat) : List (Nat × Operand) → Option (List Nat)
  | [] => some []
  | p :: ps => (match takeL σ z zs (sleaves (eval σ p.2)), takeP σ z zs ps with
    | some (_, js), some ks => some (js ++ ks)
    | _, _ => none)

def deepI (A : Ar) (o : Oper) (z : Nat) (zs : List Nat) (σ : St) (K : St → Prop) : Prop :=
  match o.op with
  | .buildSlice t n ps => (match o.dst, elemOf t with
      | some d, some (_, e) => if ps.size = n ∧ n * e.size ≤ 16777216 ∧ e.size ≠ 0 then mkF A σ d (fun σ => match partsOf A σ e 0 ps.toList, takeP σ z zs ps.toList with
        | some es, some js => if nodupN js then K (put (putF (gone σ js) d (.row es e.size (.deep z zs) false)) d (.own d none)) else False
        | _, _ => False) else False
      | _, _ => False)
  | .makeSlice t l c => (match o.dst, elemOf t, intOf (eval σ l) with
      | some d, some (_, e), some (_, n) => if sameOp l c && e.zero.all isVal then (match ofLeaves e.ag e.zero with
          | some y => A.nn n (fun _ => A.nat (A.toN n) (fun m => A.fits m e.bytes (fun _ => A.row (A.rep m y) (fun r => mkF A σ d (fun σ => K (put (putF σ d (.row r e.size (.deep z zs) false)) d (.own d none)))))))
          | none => False) else False
      | _, _, _ => False)
  | _ => False

/-- Are the rows of what is built one's own? -/
def takesP (σ : St) (z : Nat) (zs : List Nat) (o : Oper) : Bool := match o.op with
  | .buildSlice _ _ ps => (takeP σ z zs ps.toList).isSome
  | _ => true

/-- A call of a function that hands its one argument back as it is, or nothing. -/
def passO (o : Oper) : Option (FuncId × Nat × Operand) :=
  match o.op, o.dst with
  | .call c, some d => (match c.callee, c.args.toList with
    | .value (.func f), [x] => if passF f then some (f, d, x) else none
    | _, _ => none)
  | _, _ => none

def passL : Slot → Bool
  | .pv (.val _) _ | .pv (.sl _) _ | .own _ _ => true
  | _ => false

def passS (A : Ar) (f : FuncId) (d : Nat) (s : Slot) (σ : St) (K : St → Prop) : Prop :=
  match s with
  | .ag ls => if ls.all passL then (match optAll (pv1 A σ) ls with
    | some xs => A.pass f xs (fun b zs => match b with
      | true => K (put σ d (.tup [.ag ls, .pv (.val (.bool true)) []]))
      | false => K (put σ d (.tup [.ag (zs.map (.pv · [])), .pv (.val (.bool false)) []])))
    | none => False) else False
  | _ => False

/-- A call of a function that turns a row round. -/
def revO (o : Oper) : Option (FuncId × Nat × Operand) :=
  match o.op, o.dst with
  | .call c, some d => (match c.callee, c.args.toList with
    | .value (.func f), [x] => if revF f then some (f, d, x) else none
    | _, _ => none)
  | _, _ => none

def revS (A : Ar) (f : FuncId) (d : Nat) (s : Slot) (σ : St) (K : St → Prop) : Prop :=
  match s with
  | .own id none => (match σ.files id with
    | some (.row es sz u io) => if sz = ioSz f then A.rev f es (fun es' => K (put (putF (kill false σ id) id (.row es' sz u io)) d .dead)) else False
    | _ => False)
  | _ => False

def aopC (A : Ar) (o : Oper) (σ : St) (K : St → Prop) : Prop := match passO o with
  | some (f, d, x) => passS A f d (eval σ x) σ K
  | none => (match revO o with
    | some (f, d, x) => revS A f d (eval σ x) σ K
    | none => aopI A o σ K)

def aop (A : Ar) (o : Oper) (σ : St) (K : St → Prop) : Prop := keepA A o σ (fun σ => match deepOp o with
  | some (z, zs) => (match takesP σ z zs o with
    | true => deepI A o z zs σ K
    | false => aopI A o σ K)
  | none => aopC A o σ K)

/-- Is it carried out? -/
def aopG (A : Ar) (ops : Array Oper) (o : Oper) (σ : St) (K : St → Prop) : Prop :=
  if o.dst.all (fun d => Nat.blt d σ.n) then (match o.guard with
  | none => aop A o σ K
  | some (j, want) => (match (ops[j]?).bind (·.dst) with
    | some t => (match σ.slots t with
      | .pv (.val (.bool b)) _ => (match b, want with
        | true, true => aop A o σ K
        | false, false => aop A o σ K
        | _, _ => K (putO σ o.dst .undef))
      | .undef => K (putO σ o.dst .undef)
      | _ => False)
    | none => False)) else False

def aops (A : Ar) (ops : Array Oper) : List Oper → St → (St → Prop) → Prop
  | [], σ, K => K σ
  | o :: l, σ, K => aopG A ops o σ (fun σ' => aops A ops l σ' K)

/-- It only reads, and makes at most new files at its own temporary. -/
def calm (o : Oper) : Bool := (o.dst.isSome && ((keepOp o).isNone && (deepOp o).isNone && ((passO o).isNone && (revO o).isNone))) && match o.op with
  | .move _ | .assign _ | .pick _ _ _ | .alloc _ | .box _ _ | .build _ _ | .buildSlice _ _ _ | .load _ _ | .unOp _ _ _ | .convert _ _ _ | .makeFunc _ _ _ | .makeSlice _ _ _ | .slice _ _ _ _ none
  | .fieldAddr _ _ _ | .field _ _ _ | .indexAddr _ _ _ | .extract _ _ => true
  | .binOp _ _ _ y _ => !isNilSl y
  | .call c => (match c.callee with
    | .value (.func f) => (inout f).isEmpty
    | .builtin .len | .builtin .max | .builtin .min => true
    | _ => false)
  | _ => false

/-- What a calm operation yields. -/
def aopN (A : Ar) (o : Oper) (d : Nat) (σ : St) (k : Slot → List (Nat × File) → Prop) : Prop :=
  match o.op with
  | .move x | .assign x => if isNilSl x then (match elemOf o.type with
      | some (_, e) => if okD d then k (.own d none) [(d, .row [] e.size .free false)] else False
      | none => False) else k (eval σ x) []
  | .pick c a b => (match boolOf (eval σ c) with
      | some t => (match t with
        | true => k (eval σ a) []
        | false => k (eval σ b) [])
      | none => False)
  | .alloc t => (match tt t with
      | some i => if okD d then k (.ref d 0) [(d, .cell (i.zero.map (.pv · [])))] else False
      | none => False)
  | .box t x => (match tt t with
      | some i => if okD d then (if (sleaves (eval σ x)).length = i.size ∧ (sleaves (eval σ x)).all (liveS σ) then k (.ref d 0) [(d, .cell (sleaves (eval σ x)))] else False) else False
      | none => False)
  | .build t ps => (match tt t with
      | some i => (match fillS i σ ps.toList (i.zero.map (.pv · [])) with
        | some ls => if i.ag then k (.ag ls) [] else False
        | none => False)
      | none => False)
  | .buildSlice t n ps => (match elemOf t with
      | some (_, e) => if ps.size = n ∧ n * e.size ≤ 16777216 ∧ e.size ≠ 0 then (if okD d then (match partsOf A σ e 0 ps.toList with
        | some es => k (.own d none) [(d, .row es e.size (ruJoin .free (allFree es) (ps.toList.flatMap fun p => refs2 σ (eval σ p.2))) false)]
        | none => False) else False) else False
      | none => False)
  | .load t a => (match tt t with
      | some i => loadS A σ i (eval σ a) (fun s => k s [])
      | none => False)
  | .binOp op t x y _ => binS A op t (eval σ x) (eval σ y) (fun r => k (.pv r []) [])
  | .unOp op _ x => unS A op (eval σ x) (fun r => k (.pv r []) [])
  | .convert t' t x => (match tt t' with
      | some _ => convS A t (eval σ x) (fun r => k (.pv r []) [])
      | none => False)
  | .makeFunc (.func f) first caps => if first.isEmpty && (caps.toList.map (eval σ)).all isLeaf then k (.clo f (caps.toList.map (eval σ))) [] else False
  | .makeSlice t l c => (match elemOf t, intOf (eval σ l) with
      | some (_, e), some (_, n) => if sameOp l c then (match ofLeaves e.ag e.zero with
          | some z => A.nn n (fun _ => A.nat (A.toN n) (fun m => A.fits m e.bytes (fun _ => A.row (A.rep m z) (fun r => if okD d then k (.own d none) [(d, .row r e.size .free false)] else False))))
          | none => False) else False
      | _, _ => False)
  | .slice t x lo hi mx => (match mx, elemOf t with
      | none, some (_, e) => sliceS A σ e (eval σ x) lo hi (fun s => k s [])
      | _, _ => False)
  | .fieldAddr t x f => (match tt t with
      | some i => if liveS σ (eval σ x) then (match fieldAddrS i (eval σ x) f with
        | some s => k s []
        | none => False) else False
      | none => False)
  | .field t x f => (match tt t with
      | some i => (match fieldS i (eval σ x) f with
        | some s => k s []
        | none => False)
      | none => False)
  | .indexAddr t x i => (match elemOf t with
      | some (_, e) => indexAddrS A σ e (eval σ x) (eval σ i) (fun s => k s [])
      | none => False)
  | .extract t i => (match eval σ t with
      | .tup ls => (match ls[i]? with
        | some s => if isTup s then False else k s []
        | none => False)
      | _ => False)
  | .call c => (match c.callee with
      | .value (.func f) => if okD d then (match optAll (toPV A σ) (c.args.toList.map (eval σ)) with
          | some ps => A.call f ps (fun rs outs => if outs.isEmpty then (match adopt d ((c.args.toList.map (eval σ)).flatMap (refsOf σ)) rs with
            | (s, fs) => k s fs) else False)
          | none => False) else False
      | .builtin .len => (match c.args.toList, c.argTypes.toList with
        | [x], [t] => (match elemOf t, lenS A σ (eval σ x) with
          | some _, some n => A.int (A.ofN n) (fun r => k (.pv (.val (.int .i64 r)) []) [])
          | _, _ => False)
        | _, _ => False)
      | .builtin .max => (match c.args.toList with
        | [x, y] => (match intOf (eval σ x), intOf (eval σ y) with
          | some (k1, a), some (k', b) => if k1 = k' then A.int (A.mx a b) (fun r => k (.pv (.val (.int k1 r)) []) []) else False
          | _, _ => False)
        | _ => False)
      | .builtin .min => (match c.args.toList with
        | [x, y] => (match intOf (eval σ x), intOf (eval σ y) with
          | some (k1, a), some (k', b) => if k1 = k' then A.int (A.mn a b) (fun r => k (.pv (.val (.int k1 r)) []) []) else False
          | _, _ => False)
        | _ => False)
      | _ => False)
  | _ => False

/-- May it make a file? -/
def makes : Oper → Bool
  | { op := .alloc _, .. } | { op := .box _ _, .. } | { op := .buildSlice _ _ _, .. } | { op := .makeSlice _ _ _, .. } => true
  | { op := .move x, .. } | { op := .assign x, .. } => isNilSl x
  | { op := .call { callee := .value _, .. }, .. } | { op := .call { callee := .builtin .append, .. }, .. } => true
  | _ => false

def retireL (A : Ar) : List Oper → St → (St → Prop) → Prop
  | [], σ, K => K σ
  | o :: l, σ, K => (match calm o && makes o, o.dst with
    | true, some d => mkF A σ d (fun σ' => retireL A l σ' K)
    | _, _ => retireL A l σ K)

/-- A region that draws its order: any two of its operations are in a fixed order, or both are calm and apart, and all that stand ahead of them are calm. -/
def drawOk (ops : Array Oper) : Bool :=
  let b := Region.before ops
  (List.range ops.size).all fun j => match ops[j]? with
    | some oj => (oj.after.toList.all fun e => !Region.binds .any e || Nat.blt e.on j) && (List.range j).all fun i => (match ops[i]? with
      | some oi => ((b.getD j 0).testBit i || ((ops.toList.take (j + 1)).all calm && oi.apart ops oj)) && (oi.dst != oj.dst || !((calm oi && makes oi) || (calm oj && makes oj)))
      | none => true)
    | none => true

/-! A region of which every order is gone through. -/

def readyL (ops : List Oper) (done : List Nat) : List Nat := (ops.zipIdx.filter fun (o, i) => !done.elem i && o.after.toList.all fun e => !Region.binds .any e || done.elem e.on).map (·.2)

def allOf {α : Type} (f : α → Prop) : List α → Prop
  | [] => True
  | x :: xs => (match xs with
    | [] => f x
    | _ => f x ∧ allOf f xs)

def aanyL (A : Ar) (ops : Array Oper) : Nat → List Nat → St → (St → Prop) → Prop
  | 0, done, σ, K => (match readyL ops.toList done with
    | [] => K σ
    | _ => False)
  | n + 1, done, σ, K => (match readyL ops.toList done with
    | [] => K σ
    | is => allOf (fun i => match ops.toList[i]? with
      | some o => aopG A ops o σ (fun σ' => aanyL A ops n (i :: done) σ' K)
      | none => False) is)

/-- May these calm operations be taken ahead of all others, in this order? -/
def preOk (ops : Array Oper) (pre : List Nat) : Bool :=
  let b := Region.before ops
  ((List.range ops.size).all fun j => match ops[j]? with
    | some oj => (oj.after.toList.all fun e => !Region.binds .any e || Nat.blt e.on j) && (List.range ops.size).all fun i => i == j || (match ops[i]? with
      | some oi => !(calm oi && makes oi) || oi.dst != oj.dst
      | none => true)
    | none => true) && pre.all (fun i => match ops[i]? with
    | some o => calm o
    | none => false) && (nodupB pre && Nat.ble pre.length ops.size) && pairsOk (fun i j => match ops[i]?, ops[j]? with
    | some oi, some oj => (b.getD j 0).testBit i || (calm oj && oi.apart ops oj)
    | _, _ => false) pre ((List.range ops.size).filter fun j => !pre.elem j)
where
  nodupB : List Nat → Bool
    | [] => true
    | i :: l => !l.elem i && nodupB l
  pairsOk (p : Nat → Nat → Bool) : List Nat → List Nat → Bool
    | [], _ => true
    | i :: l, r => l.all (p i) && r.all (p i) && pairsOk p l r

def lookD : List (Nat × List Nat) → Nat → Option (List Nat)
  | [], _ => none
  | (i, p) :: D, id => if i = id then some p else lookD D id

def drawsOk (D : List (Nat × List Nat)) : Code → Bool
  | .region id ops true => (match lookD D id with
    | some pre => preOk ops pre
    | none => drawOk ops)
  | .seq a b => drawsOk D a && drawsOk D b
  | .cond _ a b => drawsOk D a && drawsOk D b
  | .block _ c => drawsOk D c
  | .loop c => drawsOk D c
  | _ => true

def aopsP (A : Ar) (ops : Array Oper) : List Nat → St → (St → Prop) → Prop
  | [], σ, K => K σ
  | i :: l, σ, K => (match ops.toList[i]? with
    | some o => aopG A ops o σ (fun σ' => aopsP A ops l σ' K)
    | none => False)

def awp (A : Ar) (D : List (Nat × List Nat)) : Code → (Ex → St → Prop) → St → Prop
  | .skip, K, σ => K .normal σ
  | .region id ops dr, K, σ => (match dr with
      | true => (match lookD D id with
        | some pre => retireL A ops.toList σ (fun σ => aopsP A ops pre σ (fun σ => aanyL A ops (ops.toList.length - pre.length) pre σ (fun σ' => K .normal σ')))
        | none => retireL A ops.toList σ (fun σ => aops A ops ops.toList σ (fun σ' => K .normal σ')))
      | false => aops A ops ops.toList σ (fun σ' => K .normal σ'))
  | .seq a b, K, σ => awp A D a (fun ex σ' => match ex with
      | .normal => awp A D b K σ'
      | .exit i => K (.exit i) σ'
      | .ret => K .ret σ') σ
  | .cond c a b, K, σ => (match boolOf (eval σ c) with
      | some t => (match t with
        | true => awp A D a K σ
        | false => awp A D b K σ)
      | none => False)
  | .block id c, K, σ => awp A D c (fun ex σ' => match ex with
      | .normal => K .normal σ'
      | .exit i => if i = id then K .normal σ' else K (.exit i) σ'
      | .ret => K .ret σ') σ
  | .loop c, K, σ => A.loop (fun σ' k => awp A D c k σ') σ K
  | .exit id, K, σ => K (.exit id) σ
  | .ret, K, σ => K .ret σ
  | _, _, _ => False

/-! ### Results -/

def out1 (A : Ar) (σ : St) : Slot → Option RS
  | .pv r _ => some (.pv r)
  | .own id none => (match σ.files id with
    | some (.row es sz u false) => some (.row es sz u)
    | some (.row es _ _ true) => some (.pv (.sl es))
    | _ => none)
  | .own id (some (0, l)) => (match σ.files id with
    | some (.row es sz u false) => if isDeepU u then none else some (.row (A.sub es 0 l) sz u)
    | some (.row es _ _ true) => some (.pv (.sl (A.sub es 0 l)))
    | _ => none)
  | .own id (some (o, l)) => (match σ.files id with
    | some (.row es _ _ _) => some (.pv (.sl (A.sub es o l)))
    | _ => none)
  | _ => none

def out2 (A : Ar) (σ : St) : Slot → Option RS
  | .ag ls => (match optAll (out1 A σ) ls with
    | some xs => some (.ag xs)
    | none => none)
  | s => out1 A σ s

def resSlot (σ : St) : ResultVar → Option Slot
  | .tmp t => some (σ.slots t)
  | .cell a t => (match σ.slots a, tt t with
    | .ref id 0, some i => (match σ.files id with
      | some (.cell ls) => if ls.length = i.size then ofSleaves i.ag ls else none
      | _ => none)
    | _, _ => none)

/-- The rows that are handed over. -/
def gives1 (σ : St) : Slot → List Nat
  | .own id none | .own id (some (0, _)) => (match σ.files id with
    | some (.row _ _ _ false) => [id]
    | _ => [])
  | _ => []

def gives (σ : St) : Slot → List Nat
  | .ag ls => ls.flatMap (gives1 σ)
  | s => gives1 σ s

/-- What the results refer to, besides. -/
def keeps1 (σ : St) : Slot → List Nat
  | .pv _ bs => bs
  | .own id sub => (match σ.files id with
    | some (.row _ _ u false) => (match sub with
      | none | some (0, _) => rubs u
      | some _ => id :: rubs u)
    | some (.row _ _ u true) => id :: rubs u
    | _ => [id])
  | _ => []

def keeps (σ : St) : Slot → List Nat
  | .ag ls => ls.flatMap (keeps1 σ)
  | s => keeps1 σ s

/-- The one result is a view of a row that was lent. -/
def vwOf (A : Ar) (σ : St) : List Slot → Option RS
  | [.own id sub] => (match σ.files id with
    | some (.row es _ _ true) => (match sub with
      | none => some (.vw id 0 (A.len es))
      | some (o, l) => some (.vw id o l))
    | _ => none)
  | _ => none

def resultS (A : Ar) (σ : St) (rs : List ResultVar) : Option RS :=
  match optAll (resSlot σ) rs with
  | some ss => (match vwOf A σ ss with
    | some r => some r
    | none => if (ss.flatMap (gives σ)).Nodup ∧ (ss.flatMap (keeps σ)).all (fun i => !(ss.flatMap (gives σ)).elem i) then (match optAll (out2 A σ) ss with
      | some [x] => some x
      | some xs => some (.tup xs)
      | none => none) else none)
  | none => none

/-- A view that comes back is one of a row that was lent. -/
def vwIn (io : List Nat) (args : List PV) : RS → Bool
  | .vw p _ _ => io.elem p && (match args[p]? with
    | some (.sl _) => true
    | _ => false)
  | _ => true

/-- The leaves of a struct that is lent, behind the call. -/
def outL (A : Ar) (σ : St) (p : Nat) : Nat → List PV → (List PV → Prop) → Prop
  | _, [], K => K []
  | j, .sl es0 :: ls, K => (match σ.files (p + 4096 * (j + 1)) with
    | some (.row es 1 .free true) => A.same es es0 (fun _ => outL A σ p (j + 1) ls (fun xs => K (.sl es :: xs)))
    | _ => False)
  | j, x :: ls, K => outL A σ p (j + 1) ls (fun xs => K (x :: xs))

def uOk : RU → List Nat → Bool
  | .free, [] => true
  | .deep z zs, z' :: zs' => z == z' && zs == zs'
  | _, _ => false

def outsS (A : Ar) (σ : St) (args : List PV) (zs : List Nat) (K : List PV → Prop) : List Nat → Prop
  | [] => K []
  | [p] => (match args[p]? with
    | some (.sl es0) => (match σ.files p with
      | some (.row es _ u true) => if uOk u zs then A.same es es0 (fun _ => K [.sl es]) else False
      | _ => False)
    | some (.agg ls) => outL A σ p 0 ls (fun xs => K [.agg xs])
    | _ => False)
  | _ => False

/-- The rows of a struct that is lent. -/
def agS (p : Nat) : Nat → List PV → List Slot
  | _, [] => []
  | j, x :: ls => (match x with
    | .sl _ => .own (p + 4096 * (j + 1)) none
    | x => .pv x []) :: agS p (j + 1) ls

def ruOf : List Nat → RU
  | [] => .free
  | z :: zs => .deep z zs

/-- The state in which a call begins. -/
def start (n : Nat) (ps : List Nat) (io : List Nat) (isz : Nat) (zs : List Nat) (args : List PV) : St :=
  { n := n, slots := fun k => if k < args.length then (if io.elem k then (match args[k]? with
        | some (.agg ls) => .ag (agS k 0 ls)
        | _ => .own k none) else .pv (args.getD k default) []) else .undef,
    files := fun k => if io.elem (cls k) then (match args[cls k]? with
      | some (.sl es) => if k < 4096 then (match elemOf (ps.getD k 0) with
        | some (_, e) => if e.size = isz then some (.row es isz (ruOf zs) true) else none
        | none => none) else none
      | some (.agg ls) => if k < 4096 then none else (match ls[k / 4096 - 1]? with
        | some (.sl es) => some (.row es 1 .free true)
        | _ => none)
      | _ => none) else none }

def leafOk : PV → Bool
  | .val _ | .sl _ => true
  | _ => false

/-- May this argument be lent? -/
def lentOk (ps : List Nat) (isz : Nat) (args : List PV) (p : Nat) : Bool := match args[p]? with
  | some (.sl _) => (match elemOf (ps.getD p 0) with
    | some (_, e) => e.size == isz
    | none => false)
  | some (.agg ls) => ls.all leafOk
  | _ => false

def abody (A : Ar) (D : List (Nat × List Nat)) (f : FuncId) (fn : Func) (c : Code) (args : List PV) (K : RS → List PV → Prop) : Prop :=
  if args.length ≤ fn.ntmps ∧ Nat.blt (inout f).length 2 ∧ (inout f).all (lentOk fn.params.toList (ioSz f) args) then awp A D c (fun ex σ => match ex with
    | .exit _ => False
    | _ => (match resultS A σ fn.results.toList with
      | some rs => if vwIn (inout f) args rs then outsS A σ args (ioDp f) (fun outs => K rs outs) (inout f) else False
      | none => False)) (start fn.ntmps fn.params.toList (inout f) (ioSz f) (ioDp f) args) else False

end Go.VAI

namespace Go.VAI

/-! ### What it means that a Go value reads as a PV. The last index: the blocks that the reading meets. -/
mutual
inductive Rep (w : World) : PV → Value → List Nat → Prop
  | val (v : Value) (h1 : v.oneCell' = true) : Rep w (.val v) v []
  | agg {ls : List PV} {cs : List Value} {F : List Nat} (h : RepL w ls cs F) : Rep w (.agg ls) (.agg ⟨cs⟩) F
  | nil (a : Option Addr) (cap : Nat) : Rep w (.sl []) (.slice a 0 cap) []
  | sl {es : List PV} {b o sz cap : Nat} {F : List Nat} (hne : es ≠ []) (hcap : es.length ≤ cap) (h : RepRow w b sz o es F) :
      Rep w (.sl es) (.slice (some ⟨b, o, none⟩) es.length cap) (b :: F)
  | pt {ls : List PV} {b o : Nat} {F : List Nat} (h : RepCells w b o ls F) : Rep w (.pt ls) (.pointer (some ⟨b, o, none⟩)) (b :: F)
  | fn {f : FuncId} {caps : List PV} {cs : List Value} {F : List Nat} (h : RepL w caps cs F) : Rep w (.fn f caps) (.func (.func f) #[] ⟨cs⟩) F
inductive RepL (w : World) : List PV → List Value → List Nat → Prop
  | nil : RepL w [] [] []
  | cons {x : PV} {v : Value} {xs : List PV} {vs : List Value} {F G : List Nat} (h : Rep w x v F) (t : RepL w xs vs G) : RepL w (x :: xs) (v :: vs) (F ++ G)
inductive RepCells (w : World) : Nat → Nat → List PV → List Nat → Prop
  | nil (b o : Nat) : RepCells w b o [] []
  | cons {b o : Nat} {x : PV} {v : Value} {xs : List PV} {F G : List Nat} (hc : w.cell? ⟨b, o, none⟩ = some v) (h1 : v.oneCell' = true) (h : Rep w x v F) (t : RepCells w b (o + 1) xs G) :
      RepCells w b o (x :: xs) (F ++ G)
inductive RepRow (w : World) : Nat → Nat → Nat → List PV → List Nat → Prop
  | nil (b sz o : Nat) : RepRow w b sz o [] []
  | cons {b sz o : Nat} {x : PV} {xs : List PV} {F G : List Nat} (hl : (leaves x).length = sz) (h : RepCells w b o (leaves x) F) (t : RepRow w b sz (o + sz) xs G) :
      RepRow w b sz o (x :: xs) (F ++ G)
end

theorem cell?_same {w w' : World} {b : Nat} (h : w'.heap[b]? = w.heap[b]?) (o : Nat) : w'.cell? ⟨b, o, none⟩ = w.cell? ⟨b, o, none⟩ := by
  unfold World.cell?; simp only [h]

theorem Rep.mono {w w' : World} {x : PV} {v : Value} {F : List Nat} (h : Rep w x v F) : (∀ b ∈ F, w'.heap[b]? = w.heap[b]?) → Rep w' x v F :=
  Rep.rec (w := w)
    (motive_1 := fun x v F _ => (∀ b ∈ F, w'.heap[b]? = w.heap[b]?) → Rep w' x v F)
    (motive_2 := fun xs vs F _ => (∀ b ∈ F, w'.heap[b]? = w.heap[b]?) → RepL w' xs vs F)
    (motive_3 := fun b o xs F _ => w'.heap[b]? = w.heap[b]? → (∀ b ∈ F, w'.heap[b]? = w.heap[b]?) → RepCells w' b o xs F)
    (motive_4 := fun b sz o xs F _ => w'.heap[b]? = w.heap[b]? → (∀ b ∈ F, w'.heap[b]? = w.heap[b]?) → RepRow w' b sz o xs F)
    (fun v h1 _ => .val v h1)
    (fun _ ih hs => .agg (ih hs))
    (fun a cap _ => .nil a cap)
    (fun hne hcap _ ih hs => .sl hne hcap (ih (hs _ (by simp)) (fun b hb => hs b (by simp [hb]))))
    (fun _ ih hs => .pt (ih (hs _ (by simp)) (fun b hb => hs b (by simp [hb]))))
    (fun _ ih hs => .fn (ih hs))
    (fun _ => .nil)
    (fun _ _ ih1 ih2 hs => .cons (ih1 (fun b hb => hs b (by simp [hb]))) (ih2 (fun b hb => hs b (by simp [hb]))))
    (fun b o _ _ => .nil b o)
    (fun hc h1 _ _ ih1 ih2 hb hs => .cons (by rw [cell?_same hb]; exact hc) h1 (ih1 (fun b hb => hs b (by simp [hb]))) (ih2 hb (fun b hb => hs b (by simp [hb]))))
    (fun b sz o _ _ => .nil b sz o)
    (fun hl _ _ ih1 ih2 hb hs => .cons hl (ih1 hb (fun b hb => hs b (by simp [hb]))) (ih2 hb (fun b hb => hs b (by simp [hb]))))
    h

theorem RepCells.mono {w w' : World} {b : Nat} : ∀ {xs : List PV} {o : Nat} {F : List Nat}, RepCells w b o xs F → w'.heap[b]? = w.heap[b]? → (∀ b ∈ F, w'.heap[b]? = w.heap[b]?) → RepCells w' b o xs F
  | [], _, _, .nil _ _, _, _ => .nil _ _
  | _ :: _, _, _, .cons hc h1 h t, hb, hs => .cons (by rw [cell?_same hb]; exact hc) h1 (h.mono (fun b hb => hs b (by simp [hb]))) (t.mono hb (fun b hb => hs b (by simp [hb])))

theorem RepL.mono {w w' : World} : ∀ {xs : List PV} {vs : List Value} {F : List Nat}, RepL w xs vs F → (∀ b ∈ F, w'.heap[b]? = w.heap[b]?) → RepL w' xs vs F
  | [], _, _, .nil, _ => .nil
  | _ :: _, _, _, .cons h t, hs => .cons (h.mono (fun b hb => hs b (by simp [hb]))) (t.mono (fun b hb => hs b (by simp [hb])))

theorem RepRow.mono {w w' : World} {b sz : Nat} : ∀ {xs : List PV} {o : Nat} {F : List Nat}, RepRow w b sz o xs F → w'.heap[b]? = w.heap[b]? → (∀ b ∈ F, w'.heap[b]? = w.heap[b]?) → RepRow w' b sz o xs F
  | [], _, _, .nil _ _ _, _, _ => .nil _ _ _
  | _ :: _, _, _, .cons hl h t, hb, hs => .cons hl (h.mono hb (fun b hb => hs b (by simp [hb]))) (t.mono hb (fun b hb => hs b (by simp [hb])))

/-- The same over cells: only the cells that are read must be as they were. -/
theorem RepCells.cells {w w' : World} {b : Nat} : ∀ {xs : List PV} {o : Nat} {F : List Nat}, RepCells w b o xs F → (∀ j, o ≤ j → j < o + xs.length → w'.cell? ⟨b, j, none⟩ = w.cell? ⟨b, j, none⟩) →
    (∀ b ∈ F, w'.heap[b]? = w.heap[b]?) → RepCells w' b o xs F
  | [], _, _, .nil _ _, _, _ => .nil _ _
  | x :: xs, o, _, .cons hc h1 h t, hj, hs => .cons (by rw [hj o (by omega) (by simp)]; exact hc) h1 (h.mono (fun b hb => hs b (by simp [hb])))
      (t.cells (fun j h1 h2 => hj j (by omega) (by simp at h2 ⊢; omega)) (fun b hb => hs b (by simp [hb])))

theorem RepRow.cells {w w' : World} {b sz : Nat} : ∀ {xs : List PV} {o : Nat} {F : List Nat}, RepRow w b sz o xs F → (∀ j, o ≤ j → j < o + xs.length * sz → w'.cell? ⟨b, j, none⟩ = w.cell? ⟨b, j, none⟩) →
    (∀ b ∈ F, w'.heap[b]? = w.heap[b]?) → RepRow w' b sz o xs F
  | [], _, _, .nil _ _ _, _, _ => .nil _ _ _
  | x :: xs, o, _, .cons hl h t, hj, hs =>
    .cons hl (h.cells (fun j h1 h2 => hj j (by omega) (by rw [List.length_cons, Nat.add_mul]; omega)) (fun b hb => hs b (by simp [hb])))
      (t.cells (fun j h1 h2 => hj j (by omega) (by rw [List.length_cons, Nat.add_mul]; omega)) (fun b hb => hs b (by simp [hb])))

/-- An element of a row. -/
theorem RepRow.get {w : World} {b sz : Nat} : ∀ {xs : List PV} {o : Nat} {F : List Nat}, RepRow w b sz o xs F → ∀ {i : Nat} {x : PV}, xs[i]? = some x →
    (leaves x).length = sz ∧ ∃ G, RepCells w b (o + i * sz) (leaves x) G ∧ ∀ c ∈ G, c ∈ F
  | [], _, _, .nil _ _ _, i, x, h => by simp at h
  | y :: ys, o, _, .cons (F := F) (G := G) hl h t, 0, x, hx => by
    simp at hx; subst hx
    exact ⟨hl, F, by simpa using h, fun c hc => by simp [hc]⟩
  | y :: ys, o, _, .cons (F := F) (G := G) hl h t, i + 1, x, hx => by
    simp at hx
    obtain ⟨h1, G', h2, h3⟩ := t.get hx
    exact ⟨h1, G', by rw [show o + (i + 1) * sz = o + sz + i * sz by rw [Nat.add_mul]; omega]; exact h2, fun c hc => by simp [h3 c hc]⟩

/-- A stretch of leaves. -/
theorem RepCells.drop {w : World} {b : Nat} : ∀ {xs : List PV} {o : Nat} {F : List Nat}, RepCells w b o xs F → ∀ (n : Nat), n ≤ xs.length → ∃ G, RepCells w b (o + n) (xs.drop n) G ∧ ∀ c ∈ G, c ∈ F
  | xs, o, F, h, 0, _ => ⟨F, by simpa using h, fun _ h => h⟩
  | x :: xs, o, _, .cons (F := F) (G := G) hc h1 h t, n + 1, hn => by
    obtain ⟨G', h3, h2⟩ := t.drop n (by simpa using hn)
    exact ⟨G', by rw [show o + (n + 1) = o + 1 + n by omega]; simpa using h3, fun c hc => by simp [h2 c hc]⟩

theorem RepCells.take {w : World} {b : Nat} : ∀ {xs : List PV} {o : Nat} {F : List Nat}, RepCells w b o xs F → ∀ (n : Nat), ∃ G, RepCells w b o (xs.take n) G ∧ ∀ c ∈ G, c ∈ F
  | xs, o, F, h, 0 => ⟨[], by simpa using .nil _ _, fun _ h => by simp at h⟩
  | [], o, _, .nil _ _, n + 1 => ⟨[], by simpa using .nil _ _, fun _ h => by simp at h⟩
  | x :: xs, o, _, .cons (F := F) (G := G) hc h1 h t, n + 1 => by
    obtain ⟨G', h3, h2⟩ := t.take n
    refine ⟨F ++ G', by simpa using .cons hc h1 h h3, fun c hc => ?_⟩
    simp at hc ⊢
    rcases hc with hc | hc
    · exact .inl hc
    · exact .inr (h2 c hc)

/-- The values that stand in the cells. -/
theorem RepCells.values {w : World} {b : Nat} : ∀ {xs : List PV} {o : Nat} {F : List Nat}, RepCells w b o xs F →
    ∃ vs : List Value, RepL w xs vs F ∧ vs.length = xs.length ∧ (∀ v ∈ vs, v.oneCell' = true) ∧ ∀ (j : Nat) (v : Value), vs[j]? = some v → w.cell? ⟨b, o + j, none⟩ = some v
  | [], _, _, .nil _ _ => ⟨[], .nil, rfl, by simp, fun j v h => by simp at h⟩
  | x :: xs, o, _, .cons (v := v) hc h0 h t => by
    obtain ⟨vs, h1, h2, h4, h3⟩ := t.values
    refine ⟨v :: vs, .cons h h1, by simp [h2], by simpa using ⟨h0, h4⟩, fun j u hu => ?_⟩
    cases j with
    | zero => simp at hu; subst hu; simpa using hc
    | succ j => simp at hu; rw [show o + (j + 1) = o + 1 + j by omega]; exact h3 j u hu

theorem RepL.length {w : World} : ∀ {xs : List PV} {vs : List Value} {F : List Nat}, RepL w xs vs F → vs.length = xs.length
  | _, _, _, .nil => rfl
  | _, _, _, .cons _ t => by simp [t.length]

/-- Back: values in cells that read as leaves. -/
theorem RepL.cells {w : World} {b : Nat} : ∀ {xs : List PV} {vs : List Value} {F : List Nat}, RepL w xs vs F → ∀ (o : Nat), (∀ v ∈ vs, v.oneCell' = true) → (∀ (j : Nat) (v : Value), vs[j]? = some v → w.cell? ⟨b, o + j, none⟩ = some v) →
    RepCells w b o xs F
  | _, _, _, .nil, o, _, _ => .nil _ _
  | _, _, _, .cons (v := v) h t, o, h1, hc => .cons (by simpa using hc 0 v (by simp)) (h1 v (by simp)) h (t.cells (o + 1) (fun u hu => h1 u (by simp [hu])) (fun j u hu => by have := hc (j + 1) u (by simpa using hu); rw [show o + 1 + j = o + (j + 1) by omega]; exact this))

theorem RepRow.app {w : World} {b sz : Nat} : ∀ {xs ys : List PV} {o : Nat} {F G : List Nat}, RepRow w b sz o xs F → RepRow w b sz (o + xs.length * sz) ys G → ∃ H, RepRow w b sz o (xs ++ ys) H ∧ ∀ c ∈ H, c ∈ F ∨ c ∈ G
  | [], ys, o, _, G, .nil _ _ _, h => ⟨G, by simpa using h, fun c hc => .inr hc⟩
  | x :: xs, ys, o, _, G, .cons (F := F1) (G := F2) hl h t, h2 => by
    obtain ⟨H, h3, h4⟩ := t.app (ys := ys) (G := G) (by rw [List.length_cons, Nat.add_mul, Nat.one_mul, Nat.add_comm (xs.length * sz), ← Nat.add_assoc] at h2; exact h2)
    refine ⟨F1 ++ H, by simpa using .cons hl h h3, fun c hc => ?_⟩
    simp at hc ⊢
    rcases hc with hc | hc
    · exact .inl (.inl hc)
    · rcases h4 c hc with h | h
      · exact .inl (.inr h)
      · exact .inr h

theorem RepRow.drop {w : World} {b sz : Nat} : ∀ {xs : List PV} {o : Nat} {F : List Nat}, RepRow w b sz o xs F → ∀ (n : Nat), n ≤ xs.length → ∃ G, RepRow w b sz (o + n * sz) (xs.drop n) G ∧ ∀ c ∈ G, c ∈ F
  | xs, o, F, h, 0, _ => ⟨F, by simpa using h, fun _ h => h⟩
  | x :: xs, o, _, .cons (F := F) (G := G) hl h t, n + 1, hn => by
    obtain ⟨G', h1, h2⟩ := t.drop n (by simpa using hn)
    exact ⟨G', by rw [show o + (n + 1) * sz = o + sz + n * sz by rw [Nat.add_mul]; omega]; simpa using h1, fun c hc => by simp [h2 c hc]⟩

theorem RepRow.take {w : World} {b sz : Nat} : ∀ {xs : List PV} {o : Nat} {F : List Nat}, RepRow w b sz o xs F → ∀ (n : Nat), ∃ G, RepRow w b sz o (xs.take n) G ∧ ∀ c ∈ G, c ∈ F
  | xs, o, F, h, 0 => ⟨[], by simpa using .nil _ _ _, fun _ h => by simp at h⟩
  | [], o, _, .nil _ _ _, n + 1 => ⟨[], by simpa using .nil _ _ _, fun _ h => by simp at h⟩
  | x :: xs, o, _, .cons (F := F) (G := G) hl h t, n + 1 => by
    obtain ⟨G', h1, h2⟩ := t.take n
    refine ⟨F ++ G', by simpa using .cons hl h h1, fun c hc => ?_⟩
    simp at hc ⊢
    rcases hc with hc | hc
    · exact .inl hc
    · exact .inr (h2 c hc)

/-- The cells of a whole row. -/
theorem RepRow.values {w : World} {b sz : Nat} : ∀ {xs : List PV} {o : Nat} {F : List Nat}, RepRow w b sz o xs F →
    ∃ vs : List Value, vs.length = xs.length * sz ∧ (∀ v ∈ vs, v.oneCell' = true) ∧ (∀ (j : Nat) (v : Value), vs[j]? = some v → w.cell? ⟨b, o + j, none⟩ = some v) ∧
      ∀ (w' : World) (b' o' : Nat), (∀ (j : Nat) (v : Value), vs[j]? = some v → w'.cell? ⟨b', o' + j, none⟩ = some v) → (∀ c ∈ F, w'.heap[c]? = w.heap[c]?) → RepRow w' b' sz o' xs F
  | [], _, _, .nil _ _ _ => ⟨[], by simp, by simp, fun j v h => by simp at h, fun _ _ _ _ _ => .nil _ _ _⟩
  | x :: xs, o, _, .cons (F := F) (G := G) hl h t => by
    obtain ⟨vs, h1, h2, h4, h3⟩ := h.values
    obtain ⟨us, k1, k4, k2, k3⟩ := t.values
    have hlen : vs.length = sz := by omega
    refine ⟨vs ++ us, by simp [k1, hlen, Nat.add_mul]; omega, fun v hv => (List.mem_append.1 hv).elim (h4 v) (k4 v), fun j v hj => ?_, fun w' b' o' hj hs => ?_⟩
    · by_cases hlt : j < vs.length
      · rw [List.getElem?_append_left hlt] at hj; exact h3 j v hj
      · rw [List.getElem?_append_right (by omega)] at hj
        have := k2 _ _ hj
        rw [show o + sz + (j - vs.length) = o + j by omega] at this
        exact this
    · refine .cons hl ((h1.mono (fun c hc => hs c (by simp [hc]))).cells o' h4 (fun j v hv => hj j v ?_)) (k3 w' b' (o' + sz) (fun j v hv => ?_) (fun c hc => hs c (by simp [hc])))
      · rw [List.getElem?_append_left (List.getElem?_eq_some_iff.1 hv).1]; exact hv
      · have := hj (sz + j) v (by rw [List.getElem?_append_right (by omega)]; rw [show sz + j - vs.length = j by omega]; exact hv)
        rw [← Nat.add_assoc] at this
        exact this

theorem isFree_foot {w : World} {x : PV} {v : Value} {F : List Nat} (h : Rep w x v F) (hf : isFree x = true) : F = [] := by
  cases h with
  | val => rfl
  | agg h =>
    simp only [isFree, List.all_eq_true] at hf
    rename_i ls cs
    have : ∀ (ls : List PV) (cs : List Value) (F : List Nat), RepL w ls cs F → (∀ x ∈ ls, isVal x = true) → F = [] := by
      intro ls
      induction ls with
      | nil => intro cs F h _; cases h; rfl
      | cons x xs ih =>
        intro cs F h hv
        cases h with
        | cons h t =>
          have h1 := hv x (by simp)
          cases h <;> simp [isVal] at h1
          rw [ih _ _ t (fun y hy => hv y (by simp [hy]))]; rfl
    exact this _ _ _ h hf
  | nil => simp [isFree] at hf
  | sl => simp [isFree] at hf
  | pt => simp [isFree] at hf
  | fn => simp [isFree] at hf

end Go.VAI

namespace Go.VAI

/-! ### What a slot, a file, a state say of the machine -/

/-- Where the files lie. κ: which file may write a block. -/
structure Mp where
  κ : Nat → Option Nat
  blk : Nat → Nat
  off : Nat → Nat

/-- The same tape, read on. -/
def TapeLe (w w' : World) : Prop := w'.tape = w.tape ∧ w.drawn ≤ w'.drawn
theorem TapeLe.rfl' {w : World} : TapeLe w w := ⟨rfl, Nat.le_refl _⟩
theorem TapeLe.trans {a b c : World} (h : TapeLe a b) (k : TapeLe b c) : TapeLe a c := ⟨k.1.trans h.1, Nat.le_trans h.2 k.2⟩

/-- A call: the world in which it began; the old blocks that its arguments meet; the rows that it was lent: block, first cell, elements, cells of one. -/
structure Env where
  w0 : World
  R : Nat → Prop
  io : Nat → Option (Nat × Nat × Nat × Nat)
  ioO : Nat → List Nat
  small : ∀ id q, io id = some q → cls id < ioMax

/-- A block that was lent with row id. -/
def Env.lentB (E : Env) (id b : Nat) : Prop := ∃ q, E.io id = some q ∧ (q.1 = b ∨ b ∈ E.ioO id)

def notSh : RU → Bool
  | .sh _ => false
  | _ => true

variable (E : Env)

/-- Blocks that a reading may meet: nobody writes them, or one of the files 'bs' does. -/
def Good (M : Mp) (w : World) (bs F : List Nat) : Prop :=
  ∀ b ∈ F, b < w.heap.size ∧ ((M.κ b = none ∧ (E.w0.heap.size ≤ b ∨ E.R b)) ∨ ∃ id ∈ bs, M.κ b = some id)

/-- A header of row id: elements o .. o+l of n. -/
def Hdr (M : Mp) (w : World) (id n sz o l : Nat) (v : Value) : Prop :=
  ∃ a cap, v = .slice a l cap ∧ l ≤ cap ∧ o + l ≤ n ∧ n ≤ o + cap ∧
    (cap ≠ 0 → a = some ⟨M.blk id, M.off id + o * sz, none⟩ ∧ M.κ (M.blk id) = some id ∧
      ∃ c e, w.heap[M.blk id]? = some (.cells c e (0, 0)) ∧ M.off id + (o + cap) * sz ≤ c.size)

def Cl1 (M : Mp) (σ : St) (w : World) : Slot → Value → Prop
  | .pv r bs, v => ∃ F, Rep w r v F ∧ Good E M w bs F
  | .own id none, v => ∀ es sz u io, σ.files id = some (.row es sz u io) → Hdr M w id es.length sz 0 es.length v
  | .own id (some (o, l)), v => ∀ es sz u io, σ.files id = some (.row es sz u io) → Hdr M w id es.length sz o l v
  | .ref id o, v => ∀ ls, σ.files id = some (.cell ls) → v = .pointer (some ⟨M.blk id, o, none⟩)
  | .rref id i o, v => ∀ es sz u io, σ.files id = some (.row es sz u io) → v = .pointer (some ⟨M.blk id, M.off id + i * sz + o, none⟩)
  | .lf id i o ys, v => ∀ es sz u io, σ.files id = some (.row es sz u io) → (∃ x, es[i]? = some x ∧ (leaves x)[o]? = some (.sl ys)) ∧ w.cell? ⟨M.blk id, M.off id + i * sz + o, none⟩ = some v
  | .undef, v => v = undef
  | .dead, _ => True
  | _, _ => False

/-- Two lists, one by one. -/
inductive All2 {α β : Type} (p : α → β → Prop) : List α → List β → Prop
  | nil : All2 p [] []
  | cons {x : α} {y : β} {xs : List α} {ys : List β} (h : p x y) (t : All2 p xs ys) : All2 p (x :: xs) (y :: ys)

def Cl2 (M : Mp) (σ : St) (w : World) : Slot → Value → Prop
  | .ag ls, v => ∃ cs, v = .agg ⟨cs⟩ ∧ All2 (Cl1 E M σ w) ls cs
  | .clo f ls, v => ∃ cs, v = .func (.func f) #[] ⟨cs⟩ ∧ All2 (Cl1 E M σ w) ls cs
  | s, v => Cl1 E M σ w s v

def ClS (M : Mp) (σ : St) (w : World) : Slot → Value → Prop
  | .tup ls, v => ∃ cs, v = .tuple ⟨cs⟩ ∧ All2 (Cl2 E M σ w) ls cs
  | s, v => Cl2 E M σ w s v

/-- A leaf that holds a value, or the header of a row of one's own; the last: the blocks that are one's own. -/
def LeafO (R : Nat → Nat → List PV → List Nat → Prop) (w : World) (z : Nat) : PV → Value → List Nat → Prop
  | .val u, v, N => v = u ∧ N = []
  | .sl ys, v, N => (ys = [] ∧ N = [] ∧ ∃ a, v = .slice a 0 0) ∨ ∃ c p cap cc e N', v = .slice (some ⟨c, p, none⟩) ys.length cap ∧ cap ≠ 0 ∧ ys.length ≤ cap ∧ w.heap[c]? = some (.cells cc e (0, 0)) ∧ p + cap * z ≤ cc.size ∧ N = c :: N' ∧ R c p ys N'
  | _, _, _ => False

def CellsO (L : PV → Value → List Nat → Prop) (w : World) (b : Nat) : Nat → List PV → List Nat → Prop
  | _, [], N => N = []
  | o, y :: ys, N => ∃ v n1 n2, N = n1 ++ n2 ∧ w.cell? ⟨b, o, none⟩ = some v ∧ v.oneCell' = true ∧ L y v n1 ∧ CellsO L w b (o + 1) ys n2

/-- A row whose elements' rows are its own, level by level; zs: the width of an element of each level below. -/
def RowO (ok : Nat → Prop) (w : World) : List Nat → Nat → Nat → Nat → List PV → List Nat → Prop
  | [], b, sz, o, es, N => N = [] ∧ ∃ F, RepRow w b sz o es F ∧ ∀ c ∈ F, ok c
  | z :: zs, b, sz, o, es, N => (∀ x ∈ es, (leaves x).length = sz) ∧ CellsO (LeafO (fun c p ys N => RowO ok w zs c z p ys N) w z) w b o (es.flatMap leaves) N

def noOk (_ : Nat) : Prop := False

/-- A row with its own rows below. -/
def DeepU (M : Mp) (w : World) (id sz : Nat) (zs : List Nat) (es : List PV) : Prop :=
  ∃ N, RowO noOk w zs (M.blk id) sz (M.off id) es N ∧ N.Nodup ∧ ∀ c ∈ N, M.κ c = some id ∧ c < w.heap.size ∧ c ≠ M.blk id

def GoodU (M : Mp) (w : World) (id sz : Nat) (es : List PV) : RU → List Nat → Prop
  | .free, F => F = []
  | .sh bs, F => Good E M w bs F
  | .deep z zs, F => DeepU M w id sz (z :: zs) es ∧ ∀ c ∈ F, M.κ c = some id ∧ c < w.heap.size ∧ c ≠ M.blk id

def ClF (M : Mp) (σ : St) (w : World) (id : Nat) : File → Prop
  | .cell ls => M.κ (M.blk id) = some id ∧ ∃ c e, w.heap[M.blk id]? = some (.cells c e (0, 0)) ∧ All2 (fun s v => Cl1 E M σ w s v ∧ v.oneCell' = true ∧ noTup s = true ∨ s = .dead) ls c.toList
  | .row es sz u io => (io = false → M.off id = 0) ∧ id ∉ rubs u ∧ (es ≠ [] → M.κ (M.blk id) = some id ∧ ∃ c e, w.heap[M.blk id]? = some (.cells c e (0, 0))) ∧
      ∃ F, RepRow w (M.blk id) sz (M.off id) es F ∧ GoodU E M w id sz es u F

structure G (M : Mp) (σ : St) (a : Act) (w : World) : Prop where
  slots : ∀ k, ClS E M σ w (σ.slots k) (a.tmps.getD k undef)
  tmps : a.tmps.size = σ.n
  files : ∀ id f, σ.files id = some f → ClF E M σ w id f
  defers : a.defers = []
  own : ∀ b id, M.κ b = some id → b < w.heap.size
  lent : ∀ b id, b < E.w0.heap.size → M.κ b = some id → E.lentB id b
  frame : ∀ b, b < E.w0.heap.size → (∀ id, ¬ E.lentB id b) → w.heap[b]? = E.w0.heap[b]?
  size : E.w0.heap.size ≤ w.heap.size
  os : w.os = E.w0.os
  tape : TapeLe E.w0 w
  out : w.output = E.w0.output
  iob : ∀ id es sz u b, σ.files id = some (.row es sz u true) → M.κ b = some id → b < E.w0.heap.size
  io : ∀ id b o n sz, E.io id = some (b, o, n, sz) → (∃ es u, σ.files id = some (.row es sz u true) ∧ notSh u = true ∧ es.length = n) ∧ M.blk id = b ∧ M.off id = o ∧ M.κ b = some id ∧
    ∃ c0 c e, E.w0.heap[b]? = some (.cells c0 e (0, 0)) ∧ w.heap[b]? = some (.cells c e (0, 0)) ∧ c.size = c0.size ∧ ∀ j, (j < o ∨ o + n * sz ≤ j) → c[j]? = c0[j]?

end Go.VAI

namespace Go.VAI
variable {E : Env}

theorem All2.length {α β : Type} {p : α → β → Prop} : ∀ {xs : List α} {ys : List β}, All2 p xs ys → xs.length = ys.length
  | _, _, .nil => rfl
  | _, _, .cons _ t => by simp [t.length]

theorem All2.get {α β : Type} {p : α → β → Prop} : ∀ {xs : List α} {ys : List β}, All2 p xs ys → ∀ {j : Nat} {x : α} {y : β}, xs[j]? = some x → ys[j]? = some y → p x y
  | _, _, .cons h t, 0, x, y, hx, hy => by simp at hx hy; subst hx; subst hy; exact h
  | _, _, .cons h t, j + 1, x, y, hx, hy => t.get (by simpa using hx) (by simpa using hy)

theorem All2.of_get {α β : Type} {p : α → β → Prop} : ∀ {xs : List α} {ys : List β}, xs.length = ys.length → (∀ (j : Nat) (x : α) (y : β), xs[j]? = some x → ys[j]? = some y → p x y) → All2 p xs ys
  | [], [], _, _ => .nil
  | x :: xs, y :: ys, hl, h => .cons (h 0 x y rfl rfl) (All2.of_get (by simpa using hl) fun j a b ha hb => h (j + 1) a b (by simpa using ha) (by simpa using hb))

theorem All2.imp {α β α' : Type} {p : α → β → Prop} {q : α' → β → Prop} {g : α → α'} (h : ∀ x y, p x y → q (g x) y) : ∀ {xs : List α} {ys : List β}, All2 p xs ys → All2 q (xs.map g) ys
  | _, _, .nil => .nil
  | _, _, .cons h1 t => .cons (h _ _ h1) (t.imp h)

theorem All2.drop {α β : Type} {p : α → β → Prop} : ∀ {xs : List α} {ys : List β}, All2 p xs ys → ∀ n, All2 p (xs.drop n) (ys.drop n)
  | _, _, h, 0 => by simpa using h
  | _, _, .nil, n + 1 => by simpa using All2.nil
  | _, _, .cons _ t, n + 1 => by simpa using t.drop n

theorem All2.take {α β : Type} {p : α → β → Prop} : ∀ {xs : List α} {ys : List β}, All2 p xs ys → ∀ n, All2 p (xs.take n) (ys.take n)
  | _, _, _, 0 => by simpa using All2.nil
  | _, _, .nil, n + 1 => by simpa using All2.nil
  | _, _, .cons h t, n + 1 => by simpa using All2.cons h (t.take n)

theorem All2.append {α β : Type} {p : α → β → Prop} : ∀ {xs xs' : List α} {ys ys' : List β}, All2 p xs ys → All2 p xs' ys' → All2 p (xs ++ xs') (ys ++ ys')
  | _, _, _, _, .nil, h => h
  | _, _, _, _, .cons h t, h2 => .cons h (t.append h2)

theorem Cl2.of1 {M : Mp} {σ : St} {w : World} {s : Slot} {v : Value} (h : Cl1 E M σ w s v) : Cl2 E M σ w s v := by
  cases s <;> first | exact h | exact h.elim

theorem ClS.of2 {M : Mp} {σ : St} {w : World} {s : Slot} {v : Value} (h : Cl2 E M σ w s v) : ClS E M σ w s v := by
  cases s <;> first | exact h | exact h.elim

theorem ClS.of1 {M : Mp} {σ : St} {w : World} {s : Slot} {v : Value} (h : Cl1 E M σ w s v) : ClS E M σ w s v := .of2 (.of1 h)

theorem Cl2.map {M M' : Mp} {σ σ' : St} {w w' : World} {g : Slot → Slot} (hg : ∀ s v, Cl1 E M σ w s v → Cl1 E M' σ' w' (g s) v) {s : Slot} {v : Value}
    (h : Cl2 E M σ w s v) : Cl2 E M' σ' w' (map2 g s) v := by
  cases s with
  | ag ls => obtain ⟨cs, rfl, h⟩ := h; exact ⟨cs, rfl, h.imp hg⟩
  | clo f ls => obtain ⟨cs, rfl, h⟩ := h; exact ⟨cs, rfl, h.imp hg⟩
  | _ => exact .of1 (hg _ _ h)

theorem ClS.map {M M' : Mp} {σ σ' : St} {w w' : World} {g : Slot → Slot} (hg : ∀ s v, Cl1 E M σ w s v → Cl1 E M' σ' w' (g s) v) {s : Slot} {v : Value}
    (h : ClS E M σ w s v) : ClS E M' σ' w' (mapS g s) v := by
  cases s with
  | tup ls => obtain ⟨cs, rfl, h⟩ := h; exact ⟨cs, rfl, h.imp (fun _ _ h => Cl2.map hg h)⟩
  | pv r bs => exact ClS.of2 (Cl2.map (s := .pv r bs) hg h)
  | ag ls => exact ClS.of2 (Cl2.map (s := .ag ls) hg h)
  | own id sub => exact ClS.of2 (Cl2.map (s := .own id sub) hg h)
  | ref id o => exact ClS.of2 (Cl2.map (s := .ref id o) hg h)
  | rref id i o => exact ClS.of2 (Cl2.map (s := .rref id i o) hg h)
  | lf id i o yl => exact ClS.of2 (Cl2.map (s := .lf id i o yl) hg h)
  | clo f ls => exact ClS.of2 (Cl2.map (s := .clo f ls) hg h)
  | undef => exact ClS.of2 (Cl2.map (s := .undef) hg h)
  | dead => exact ClS.of2 (Cl2.map (s := .dead) hg h)

theorem map2_id (s : Slot) : map2 id s = s := by cases s <;> simp [map2]
theorem mapS_id (s : Slot) : mapS id s = s := by
  cases s with
  | tup ls => simp only [mapS]; congr 1; rw [List.map_congr_left (fun x _ => map2_id x)]; simp
  | _ => simp only [mapS]; exact map2_id _

theorem ClS.same {M M' : Mp} {σ σ' : St} {w w' : World} (hg : ∀ s v, Cl1 E M σ w s v → Cl1 E M' σ' w' s v) {s : Slot} {v : Value}
    (h : ClS E M σ w s v) : ClS E M' σ' w' s v := by
  have := ClS.map (g := id) hg h
  rwa [mapS_id] at this

theorem Good.mono {M : Mp} {w : World} {bs F F' : List Nat} (h : Good E M w bs F) (hs : ∀ b ∈ F', b ∈ F) : Good E M w bs F' := fun b hb => h b (hs b hb)
theorem Good.more {M : Mp} {w : World} {bs bs' F : List Nat} (h : Good E M w bs F) (hs : ∀ b ∈ bs, b ∈ bs') : Good E M w bs' F :=
  fun b hb => let ⟨h1, h2⟩ := h b hb; ⟨h1, h2.imp (fun h => h) (fun ⟨i, hi, e⟩ => ⟨i, hs i hi, e⟩)⟩

theorem flat_len {sz : Nat} : ∀ {es : List PV}, (∀ x ∈ es, (leaves x).length = sz) → (es.flatMap leaves).length = es.length * sz
  | [], _ => by simp
  | x :: es, h => by
    have h1 := h x (by simp)
    have h2 := flat_len (es := es) (fun y hy => h y (by simp [hy]))
    simp only [List.flatMap_cons, List.length_append, List.length_cons, Nat.add_mul]
    omega

theorem CellsO.mono {L L' : PV → Value → List Nat → Prop} {w w' : World} {b : Nat} : ∀ {ls : List PV} {o : Nat} {N : List Nat}, CellsO L w b o ls N → (∀ j, o ≤ j → j < o + ls.length → w'.cell? ⟨b, j, none⟩ = w.cell? ⟨b, j, none⟩) →
    (∀ y v n, L y v n → (∀ c ∈ n, c ∈ N) → L' y v n) → CellsO L' w' b o ls N
  | [], _, _, h, _, _ => h
  | y :: ys, o, N, ⟨v, n1, n2, e, h1, h2, h3, h4⟩, hc, hL => by
    subst e
    exact ⟨v, n1, n2, rfl, by rw [hc o (by omega) (by simp)]; exact h1, h2, hL _ _ _ h3 (fun c hc => by simp [hc]),
      CellsO.mono h4 (fun j j1 j2 => hc j (by omega) (by simp; omega)) (fun y v n h hn => hL y v n h (fun c hc => by simp [hn c hc]))⟩

theorem RowO.mono {ok ok' : Nat → Prop} {w w' : World} (hok : ∀ c, ok c → ok' c ∧ w'.heap[c]? = w.heap[c]?) : ∀ {zs : List Nat} {b sz o : Nat} {es : List PV} {N : List Nat}, RowO ok w zs b sz o es N →
    (∀ j, o ≤ j → j < o + es.length * sz → w'.cell? ⟨b, j, none⟩ = w.cell? ⟨b, j, none⟩) → (∀ c ∈ N, w'.heap[c]? = w.heap[c]?) → RowO ok' w' zs b sz o es N
  | [], b, sz, o, es, N, ⟨h1, F, h2, h3⟩, hc, _ => ⟨h1, F, h2.cells hc (fun c hcF => (hok c (h3 c hcF)).2), fun c hcF => (hok c (h3 c hcF)).1⟩
  | z :: zs, b, sz, o, es, N, ⟨h1, h2⟩, hc, hN => by
    refine ⟨h1, h2.mono (fun j j1 j2 => hc j j1 (by rw [flat_len h1] at j2; exact j2)) (fun y v n hL hn => ?_)⟩
    cases y with
    | val u => exact hL
    | sl ys =>
      rcases hL with hL | ⟨c, p, cap, cc, e, N', k1, k2, k3, k4, k5, rfl, k6⟩
      · exact .inl hL
      · have hs := hN c (hn c (by simp))
        exact .inr ⟨c, p, cap, cc, e, N', k1, k2, k3, by rw [hs]; exact k4, k5, rfl, RowO.mono hok k6 (fun j _ _ => cell?_same hs j) (fun d hd => hN d (hn d (by simp [hd])))⟩
    | _ => exact hL.elim

theorem CellsO.rep {L : PV → Value → List Nat → Prop} {ok : Nat → Prop} {w : World} {b : Nat} (hL : ∀ y v n, L y v n → v.oneCell' = true → ∃ F, Rep w y v F ∧ ∀ c ∈ F, c ∈ n ∨ ok c) : ∀ {ls : List PV} {o : Nat} {N : List Nat}, CellsO L w b o ls N → ∃ F, RepCells w b o ls F ∧ ∀ c ∈ F, c ∈ N ∨ ok c
  | [], o, _, _ => ⟨[], .nil _ _, by simp⟩
  | y :: ys, o, N, ⟨v, n1, n2, e, h1, h2, h3, h4⟩ => by
    subst e
    obtain ⟨F1, a1, a2⟩ := hL _ _ _ h3 h2
    obtain ⟨F2, b1, b2⟩ := CellsO.rep hL h4
    refine ⟨F1 ++ F2, .cons h1 h2 a1 b1, fun c hc => ?_⟩
    rcases List.mem_append.1 hc with hc | hc
    · exact (a2 c hc).imp (fun h => by simp [h]) id
    · exact (b2 c hc).imp (fun h => by simp [h]) id

theorem repRow_flat {w : World} {b sz : Nat} {P : Nat → Prop} : ∀ {es : List PV} {o : Nat} {F : List Nat}, (∀ x ∈ es, (leaves x).length = sz) → RepCells w b o (es.flatMap leaves) F → (∀ c ∈ F, P c) → ∃ G, RepRow w b sz o es G ∧ ∀ c ∈ G, P c
  | [], o, F, _, _, _ => ⟨[], .nil _ _ _, by simp⟩
  | x :: es, o, F, hl, h, hF => by
    have hx := hl x (by simp)
    rw [List.flatMap_cons] at h
    obtain ⟨F1, a1, a2⟩ := h.take (leaves x).length
    obtain ⟨F2, b1, b2⟩ := h.drop (leaves x).length (by simp)
    rw [List.take_left] at a1
    rw [List.drop_left, hx] at b1
    obtain ⟨G, g1, g2⟩ := repRow_flat (fun y hy => hl y (by simp [hy])) b1 (fun c hc => hF c (b2 c hc))
    exact ⟨F1 ++ G, .cons hx a1 g1, fun c hc => (List.mem_append.1 hc).elim (fun hc => hF c (a2 c hc)) (g2 c)⟩

/-- Such a row reads as a row. -/
theorem RowO.rep {ok : Nat → Prop} {w : World} : ∀ {zs : List Nat} {b sz o : Nat} {es : List PV} {N : List Nat}, RowO ok w zs b sz o es N → ∃ F, RepRow w b sz o es F ∧ ∀ c ∈ F, c ∈ N ∨ ok c
  | [], b, sz, o, es, N, ⟨_, F, h2, h3⟩ => ⟨F, h2, fun c hc => .inr (h3 c hc)⟩
  | z :: zs, b, sz, o, es, N, ⟨h1, h2⟩ => by
    obtain ⟨F, f1, f2⟩ := CellsO.rep (ok := ok) (fun y v n hL hv => by
      cases y with
      | val u => obtain ⟨rfl, rfl⟩ := hL; exact ⟨[], .val v hv, by simp⟩
      | sl ys =>
        rcases hL with ⟨rfl, rfl, a, rfl⟩ | ⟨c, p, cap, cc, e, N', rfl, k2, k3, k4, k5, rfl, k6⟩
        · exact ⟨[], .nil _ _, by simp⟩
        · by_cases hy : ys = []
          · subst hy; exact ⟨[], .nil _ _, by simp⟩
          · obtain ⟨F, g1, g2⟩ := RowO.rep k6
            exact ⟨c :: F, .sl hy k3 g1, fun d hd => by
              rcases List.mem_cons.1 hd with rfl | hd
              · simp
              · exact (g2 d hd).imp (fun h => by simp [h]) id⟩
      | _ => exact hL.elim) h2
    exact repRow_flat h1 f1 f2

theorem CellsO.app {L : PV → Value → List Nat → Prop} {w : World} {b : Nat} : ∀ {A B : List PV} {o : Nat} {n1 n2 : List Nat}, CellsO L w b o A n1 → CellsO L w b (o + A.length) B n2 → CellsO L w b o (A ++ B) (n1 ++ n2)
  | [], B, o, n1, n2, h1, h2 => by
    have h1 : n1 = [] := h1
    subst h1; simpa using h2
  | y :: A, B, o, n1, n2, ⟨v, m1, m2, e, a1, a2, a3, a4⟩, h2 => by
    subst e
    exact ⟨v, m1, m2 ++ n2, by simp, a1, a2, a3, CellsO.app a4 (by rw [List.length_cons] at h2; rw [show o + 1 + A.length = o + (A.length + 1) by omega]; exact h2)⟩
theorem CellsO.split {L : PV → Value → List Nat → Prop} {w : World} {b : Nat} : ∀ {A B : List PV} {o : Nat} {N : List Nat}, CellsO L w b o (A ++ B) N → ∃ n1 n2, N = n1 ++ n2 ∧ CellsO L w b o A n1 ∧ CellsO L w b (o + A.length) B n2
  | [], B, o, N, h => ⟨[], N, by simp, rfl, by simpa using h⟩
  | y :: A, B, o, N, ⟨v, m1, m2, e, a1, a2, a3, a4⟩ => by
    subst e
    obtain ⟨n1, n2, e, h1, h2⟩ := CellsO.split a4
    subst e
    exact ⟨m1 ++ n1, n2, by simp, ⟨v, m1, n1, rfl, a1, a2, a3, h1⟩, by rw [List.length_cons, show o + (A.length + 1) = o + 1 + A.length by omega]; exact h2⟩
/-- Cells that hold values alone. -/
theorem CellsO.vals {L : PV → Value → List Nat → Prop} {w : World} {b : Nat} (hL : ∀ v, L (.val v) v []) : ∀ {ls : List PV} {o : Nat}, (∀ j y, ls[j]? = some y → ∃ v, y = .val v ∧ v.oneCell' = true ∧ w.cell? ⟨b, o + j, none⟩ = some v) → CellsO L w b o ls []
  | [], _, _ => rfl
  | y :: ys, o, h => by
    obtain ⟨v, e, h1, h2⟩ := h 0 y rfl
    subst e
    exact ⟨v, [], [], rfl, by simpa using h2, h1, hL v, CellsO.vals hL (fun j y hj => by
      obtain ⟨v, e, h1, h2⟩ := h (j + 1) y (by simpa using hj)
      exact ⟨v, e, h1, by rw [show o + 1 + j = o + (j + 1) by omega]; exact h2⟩)⟩

abbrev LeafR (ok : Nat → Prop) (w : World) (zs : List Nat) (z : Nat) : PV → Value → List Nat → Prop := LeafO (fun c p ys N => RowO ok w zs c z p ys N) w z
def preF (es : List PV) (q p : Nat) (x : PV) : List PV := (es.take q).flatMap leaves ++ (leaves x).take p
def postF (es : List PV) (q p : Nat) (x : PV) : List PV := (leaves x).drop p ++ (es.drop (q + 1)).flatMap leaves
theorem preF_len {es : List PV} {q p sz : Nat} {x : PV} (h : ∀ x ∈ es, (leaves x).length = sz) (hq : q < es.length) (hp : p ≤ (leaves x).length) : (preF es q p x).length = q * sz + p := by
  unfold preF
  rw [List.length_append, flat_len (sz := sz) (fun y hy => h y (List.mem_of_mem_take hy)), List.length_take, List.length_take]
  rw [Nat.min_eq_left (by omega), Nat.min_eq_left hp]

/-- The leaves p .. p+k of element q, and those before and behind. -/
theorem RowO.open {ok : Nat → Prop} {w : World} {z : Nat} {zs : List Nat} {b sz o : Nat} {es : List PV} {N : List Nat} (h : RowO ok w (z :: zs) b sz o es N) {q p k : Nat} {x : PV} (hq : es[q]? = some x) (hp : p + k ≤ (leaves x).length) :
    ∃ n1 n2 n3, N = n1 ++ (n2 ++ n3) ∧ CellsO (LeafR ok w zs z) w b o (preF es q p x) n1 ∧ CellsO (LeafR ok w zs z) w b (o + q * sz + p) (((leaves x).drop p).take k) n2 ∧ CellsO (LeafR ok w zs z) w b (o + q * sz + p + k) (postF es q (p + k) x) n3 := by
  obtain ⟨h1, h2⟩ := h
  obtain ⟨hlt, hqe⟩ := List.getElem?_eq_some_iff.1 hq
  have hflat : es.flatMap leaves = preF es q p x ++ (((leaves x).drop p).take k ++ postF es q (p + k) x) := by
    have e1 : es = es.take q ++ x :: es.drop (q + 1) := by rw [← hqe, ← List.drop_eq_getElem_cons hlt, List.take_append_drop]
    have e2 : leaves x = (leaves x).take p ++ (((leaves x).drop p).take k ++ (leaves x).drop (p + k)) := by
      rw [← List.drop_drop, List.take_append_drop, List.take_append_drop]
    unfold preF postF
    conv => lhs; rw [e1, List.flatMap_append, List.flatMap_cons, e2]
    simp only [List.append_assoc]
  rw [hflat] at h2
  obtain ⟨n1, m, e, a1, a2⟩ := h2.split
  subst e
  obtain ⟨n2, n3, e, b1, b2⟩ := a2.split
  subst e
  rw [preF_len h1 hlt (by omega)] at b1 b2
  have hk : (((leaves x).drop p).take k).length = k := by simp; omega
  rw [hk] at b2
  exact ⟨n1, n2, n3, rfl, a1, by rw [Nat.add_assoc]; exact b1, by rw [Nat.add_assoc o]; exact b2⟩

/-- The same element with other leaves p .. p+k. -/
theorem RowO.close {ok : Nat → Prop} {w : World} {z : Nat} {zs : List Nat} {b sz o : Nat} {es : List PV} (h1 : ∀ x ∈ es, (leaves x).length = sz) {q p : Nat} {x x' : PV} {ys : List PV} (hq : es[q]? = some x) (hp : p + ys.length ≤ (leaves x).length)
    (hx' : leaves x' = (leaves x).take p ++ (ys ++ (leaves x).drop (p + ys.length))) {n1 n2 n3 : List Nat} (a1 : CellsO (LeafR ok w zs z) w b o (preF es q p x) n1) (a2 : CellsO (LeafR ok w zs z) w b (o + q * sz + p) ys n2) (a3 : CellsO (LeafR ok w zs z) w b (o + q * sz + p + ys.length) (postF es q (p + ys.length) x) n3) :
    RowO ok w (z :: zs) b sz o (es.set q x') (n1 ++ (n2 ++ n3)) := by
  obtain ⟨hlt, hqe⟩ := List.getElem?_eq_some_iff.1 hq
  have hxl := h1 x (List.mem_of_getElem? hq)
  refine ⟨fun y hy => ?_, ?_⟩
  · rcases List.mem_or_eq_of_mem_set hy with h | h
    · exact h1 y h
    · subst h; rw [hx']; simp; omega
  · have hflat : (es.set q x').flatMap leaves = preF es q p x ++ (ys ++ postF es q (p + ys.length) x) := by
      rw [List.set_eq_take_append_cons_drop, if_pos hlt, List.flatMap_append, List.flatMap_cons, hx']
      unfold preF postF
      simp only [List.append_assoc]
    rw [hflat]
    refine CellsO.app a1 (CellsO.app ?_ ?_)
    · rw [preF_len h1 hlt (by omega), ← Nat.add_assoc]; exact a2
    · rw [preF_len h1 hlt (by omega), ← Nat.add_assoc]; exact a3

theorem LeafR.mono {ok ok' : Nat → Prop} {w w' : World} (hok : ∀ c, ok c → ok' c ∧ w'.heap[c]? = w.heap[c]?) {zs : List Nat} {z : Nat} {y : PV} {v : Value} {n : List Nat} (h : LeafR ok w zs z y v n) (hn : ∀ c ∈ n, w'.heap[c]? = w.heap[c]?) : LeafR ok' w' zs z y v n := by
  cases y with
  | val u => exact h
  | sl ys =>
    rcases h with h | ⟨c, p, cap, cc, e, N', k1, k2, k3, k4, k5, rfl, k6⟩
    · exact .inl h
    · have hs := hn c (by simp)
      exact .inr ⟨c, p, cap, cc, e, N', k1, k2, k3, by rw [hs]; exact k4, k5, rfl, RowO.mono hok k6 (fun j _ _ => cell?_same hs j) (fun d hd => hn d (by simp [hd]))⟩
  | _ => exact h.elim

theorem DeepU.rep {M : Mp} {w : World} {id sz : Nat} {zs : List Nat} {es : List PV} (h : DeepU M w id sz zs es) : ∃ F, RepRow w (M.blk id) sz (M.off id) es F ∧ ∀ c ∈ F, M.κ c = some id ∧ c < w.heap.size ∧ c ≠ M.blk id := by
  obtain ⟨N, h1, _, h3⟩ := h
  obtain ⟨F, f1, f2⟩ := h1.rep
  exact ⟨F, f1, fun c hc => (f2 c hc).elim (h3 c) (fun h => h.elim)⟩

theorem RowO.nil {ok : Nat → Prop} {w : World} {b sz o : Nat} : ∀ {zs : List Nat}, RowO ok w zs b sz o [] []
  | [] => ⟨rfl, [], .nil _ _ _, by simp⟩
  | z :: zs => ⟨by simp, rfl⟩
theorem RowO.nil_eq {ok : Nat → Prop} {w : World} {b sz o : Nat} {N : List Nat} : ∀ {zs : List Nat}, RowO ok w zs b sz o [] N → N = []
  | [], h => h.1
  | z :: zs, h => h.2

theorem GoodU.any {M : Mp} {w : World} {id sz id' sz' : Nat} {es es' : List PV} {u : RU} {F : List Nat} (hu : isDeepU u = false) (h : GoodU E M w id sz es u F) : GoodU E M w id' sz' es' u F := by
  cases u with
  | deep z zs => cases hu
  | _ => exact h

/-- Nothing of it is touched. -/
theorem DeepU.mono {M M' : Mp} {w w' : World} {id sz : Nat} {zs : List Nat} {es : List PV} (h : DeepU M w id sz zs es) (hb : M'.blk id = M.blk id) (ho : M'.off id = M.off id) (hblk : es ≠ [] → w'.heap[M.blk id]? = w.heap[M.blk id]?)
    (hs : ∀ c, M.κ c = some id → c < w.heap.size → M'.κ c = some id ∧ w'.heap[c]? = w.heap[c]? ∧ c < w'.heap.size) : DeepU M' w' id sz zs es := by
  obtain ⟨N, h1, h2, h3⟩ := h
  refine ⟨N, ?_, h2, fun c hc => ?_⟩
  · rw [hb, ho]
    by_cases he : es = []
    · subst he
      rw [h1.nil_eq]; exact RowO.nil
    · exact h1.mono (fun c h => h.elim) (fun j _ _ => cell?_same (hblk he) j) (fun c hc => (hs c (h3 c hc).1 (h3 c hc).2.1).2.1)
  · obtain ⟨k1, k2, k3⟩ := h3 c hc
    obtain ⟨q1, q2, q3⟩ := hs c k1 k2
    exact ⟨q1, q3, by rw [hb]; exact k3⟩

theorem GoodU.deep_mono {M M' : Mp} {w w' : World} {id sz : Nat} {z : Nat} {zs : List Nat} {es : List PV} {F : List Nat} (h : GoodU E M w id sz es (.deep z zs) F) (hb : M'.blk id = M.blk id) (ho : M'.off id = M.off id) (hblk : es ≠ [] → w'.heap[M.blk id]? = w.heap[M.blk id]?)
    (hs : ∀ c, M.κ c = some id → c < w.heap.size → M'.κ c = some id ∧ w'.heap[c]? = w.heap[c]? ∧ c < w'.heap.size) : GoodU E M' w' id sz es (.deep z zs) F := by
  obtain ⟨h1, h2⟩ := h
  refine ⟨h1.mono hb ho hblk hs, fun c hc => ?_⟩
  obtain ⟨q1, q2, q3⟩ := h2 c hc
  obtain ⟨p1, p2, p3⟩ := hs c q1 q2
  exact ⟨p1, p3, by rw [hb]; exact q3⟩

theorem mkpv_cl {M : Mp} {σ : St} {w : World} {r : PV} {bs : List Nat} {v : Value} (h : Cl1 E M σ w (.pv r bs) v) : Cl1 E M σ w (mkpv r bs) v := by
  unfold mkpv
  split
  · obtain ⟨F, h1, h2⟩ := h
    have := isFree_foot h1 ‹_›
    subst this
    exact ⟨[], h1, fun b hb => by simp at hb⟩
  · exact h

/-! ### Retiring -/

/-- The map without the files of class d. -/
def Mp.drop (M : Mp) (d : Nat) : Mp := { M with κ := fun b => match M.κ b with
  | some id => if cls id = d then none else some id
  | none => none }

theorem Mp.drop_some {M : Mp} {d b id : Nat} : (M.drop d).κ b = some id ↔ M.κ b = some id ∧ cls id ≠ d := by
  unfold Mp.drop
  cases h : M.κ b with
  | none => simp [h]
  | some j =>
    simp only [h]
    by_cases hj : cls j = d
    · simp only [hj, if_true]; constructor
      · intro h; cases h
      · rintro ⟨h, h2⟩; cases h; exact absurd hj h2
    · simp only [hj, if_false]; constructor
      · intro h; cases h; exact ⟨rfl, hj⟩
      · rintro ⟨h, _⟩; exact h

theorem Mp.drop_none {M : Mp} {d b : Nat} : (M.drop d).κ b = none ↔ M.κ b = none ∨ ∃ id, M.κ b = some id ∧ cls id = d := by
  unfold Mp.drop
  cases h : M.κ b with
  | none => simp [h]
  | some j =>
    simp only [h]
    by_cases hj : cls j = d
    · simp [hj]
    · simp [hj]

/-- No lent row is of class d. -/
def NoIo (E : Env) (d : Nat) : Prop := ∀ id q, E.io id = some q → cls id ≠ d

theorem mem_dropB {d i : Nat} {bs : List Nat} : i ∈ dropB d bs ↔ i ∈ bs ∧ cls i ≠ d := by simp [dropB]

theorem Good.retire {M : Mp} {σ : St} {a : Act} {w : World} (hg : G E M σ a w) {d : Nat} (hio : NoIo E d) {bs F : List Nat} (h : Good E M w bs F) : Good E (M.drop d) w (dropB d bs) F := by
  intro b hb
  obtain ⟨h1, h2⟩ := h b hb
  refine ⟨h1, ?_⟩
  rcases h2 with ⟨h2, h3⟩ | ⟨id, hid, h2⟩
  · exact .inl ⟨Mp.drop_none.2 (.inl h2), h3⟩
  · by_cases hc : cls id = d
    · refine .inl ⟨Mp.drop_none.2 (.inr ⟨id, h2, hc⟩), .inl ?_⟩
      rcases Nat.lt_or_ge b E.w0.heap.size with hlt | hge
      · obtain ⟨q, hq, _⟩ := hg.lent b id hlt h2
        exact absurd hc (hio id _ hq)
      · exact hge
    · exact .inr ⟨id, mem_dropB.2 ⟨hid, hc⟩, Mp.drop_some.2 ⟨h2, hc⟩⟩

theorem retire_files {A : Ar} {σ : St} {d j : Nat} {f : File} : (retire A σ d).files j = some f ↔ cls j ≠ d ∧ ∃ f0, σ.files j = some f0 ∧ f = retF A σ d f0 := by
  unfold retire
  by_cases h : cls j = d
  · simp [h]
  · simp only [h, if_false]
    cases hf : σ.files j with
    | none => simp
    | some f0 => simp [h, eq_comm]

theorem retF_row {A : Ar} {σ : St} {d : Nat} {f0 : File} {es : List PV} {sz : Nat} {u : RU} {io : Bool} (h : File.row es sz u io = retF A σ d f0) :
    ∃ u0, f0 = .row es sz u0 io ∧ rubs u = dropB d (rubs u0) ∧ (u0 = .free → u = .free) ∧ (∀ bs, u0 = .sh bs → u = .sh (dropB d bs)) ∧ (∀ z zs, u0 = .deep z zs → u = .deep z zs) := by
  cases f0 with
  | cell ls => simp [retF] at h
  | row es' sz' u' io' =>
    cases u' with
    | free => simp [retF] at h; obtain ⟨rfl, rfl, rfl, rfl⟩ := h; exact ⟨.free, rfl, by simp [rubs, dropB], (fun _ => rfl), (fun bs h => by cases h), (fun z zs h => by cases h)⟩
    | sh bs => simp [retF] at h; obtain ⟨rfl, rfl, rfl, rfl⟩ := h; exact ⟨.sh bs, rfl, by simp [rubs], (fun h => by cases h), (fun bs' h => by cases h; rfl), (fun z zs h => by cases h)⟩
    | deep z zs => simp [retF] at h; obtain ⟨rfl, rfl, rfl, rfl⟩ := h; exact ⟨.deep z zs, rfl, by simp [rubs, dropB], (fun h => by cases h), (fun bs h => by cases h), (fun z zs h => by cases h; rfl)⟩

theorem Hdr.drop {M : Mp} {w : World} {id n sz o l d : Nat} {v : Value} (h : Hdr M w id n sz o l v) (hc : cls id ≠ d) : Hdr (M.drop d) w id n sz o l v := by
  obtain ⟨a, cap, h1, h2, h3, h4, h5⟩ := h
  exact ⟨a, cap, h1, h2, h3, h4, fun h0 => let ⟨k1, k2, k3⟩ := h5 h0; ⟨k1, Mp.drop_some.2 ⟨k2, hc⟩, k3⟩⟩

/-- A header reads as a slice. -/
theorem Hdr.rep {M : Mp} {σ : St} {a : Act} {w : World} (hg : G E M σ a w) {id : Nat} {es : List PV} {sz : Nat} {u : RU} {io : Bool} (hf : σ.files id = some (.row es sz u io)) {o l : Nat} {v : Value}
    (h : Hdr M w id es.length sz o l v) : ∃ F, Rep w (.sl ((es.drop o).take l)) v F ∧ Good E M w (id :: rubs u) F := by
  obtain ⟨a, cap, rfl, h2, h3, h4, h5⟩ := h
  obtain ⟨h6, h7, h8, F, h9, h10⟩ := hg.files _ _ hf
  have hlen : ((es.drop o).take l).length = l := by simp; omega
  by_cases hl : l = 0
  · subst hl
    exact ⟨[], by simpa using Rep.nil a cap, fun b hb => by simp at hb⟩
  · obtain ⟨rfl, k2, c, e, k3, k4⟩ := h5 (by omega)
    obtain ⟨F1, r1, s1⟩ := h9.drop o (by omega)
    obtain ⟨F2, r2, s2⟩ := r1.take l
    refine ⟨M.blk id :: F2, ?_, ?_⟩
    · have := Rep.sl (w := w) (es := (es.drop o).take l) (b := M.blk id) (o := M.off id + o * sz) (sz := sz) (cap := cap) (by intro h; rw [h] at hlen; simp at hlen; omega) (by omega) r2
      rwa [hlen] at this
    · intro b hb
      simp at hb
      rcases hb with rfl | hb
      · exact ⟨hg.own _ _ k2, .inr ⟨id, by simp, k2⟩⟩
      · have hb' := s1 _ (s2 _ hb)
        cases u with
        | free => simp [GoodU] at h10; subst h10; simp at hb'
        | sh bs =>
          obtain ⟨q1, q2⟩ := h10 b hb'
          exact ⟨q1, q2.imp (fun h => h) fun ⟨i, hi, e⟩ => ⟨i, by simp [rubs, hi], e⟩⟩
        | deep z zs =>
          obtain ⟨q1, q2, _⟩ := h10.2 b hb'
          exact ⟨q2, .inr ⟨id, by simp, q1⟩⟩

end Go.VAI

namespace Go.VAI
variable {E : Env}

theorem sub_full {α : Type} (es : List α) : (es.drop 0).take es.length = es := by simp

theorem dropB_cons_same {d id : Nat} {bs : List Nat} (h : cls id = d) : dropB d (id :: bs) = dropB d bs := by simp [dropB, h]

theorem Cl1.retire {A : Ar} (hA : ∀ es o l, A.sub es o l = (es.drop o).take l) {M : Mp} {σ : St} {a : Act} {w : World} (hg : G E M σ a w) {d : Nat} (hio : NoIo E d) (s : Slot) (v : Value)
    (h : Cl1 E M σ w s v) : Cl1 E (M.drop d) (retire A σ d) w (ret1 A σ d s) v := by
  cases s with
  | pv r bs => obtain ⟨F, h1, h2⟩ := h; exact ⟨F, h1, h2.retire hg hio⟩
  | own id sub =>
    simp only [ret1]
    by_cases hc : cls id = d
    · rw [if_pos hc]
      cases hf : σ.files id with
      | none => exact trivial
      | some f =>
        cases f with
        | cell ls => exact trivial
        | row es sz u io =>
          cases sub with
          | none =>
            obtain ⟨F, h1, h2⟩ := Hdr.rep hg hf (h es sz u io hf)
            rw [sub_full] at h1
            exact ⟨F, h1, by have := h2.retire hg hio; rwa [dropB_cons_same hc] at this⟩
          | some p =>
            obtain ⟨o, l⟩ := p
            obtain ⟨F, h1, h2⟩ := Hdr.rep hg hf (h es sz u io hf)
            refine ⟨F, ?_, by have := h2.retire hg hio; rwa [dropB_cons_same hc] at this⟩
            rw [hA]; exact h1
    · rw [if_neg hc]
      cases sub with
      | none =>
        intro es sz u io hf
        obtain ⟨_, f0, hf0, he⟩ := retire_files.1 hf
        obtain ⟨u0, rfl, _⟩ := retF_row he
        exact (h es sz u0 io hf0).drop hc
      | some p =>
        obtain ⟨o, l⟩ := p
        intro es sz u io hf
        obtain ⟨_, f0, hf0, he⟩ := retire_files.1 hf
        obtain ⟨u0, rfl, _⟩ := retF_row he
        exact (h es sz u0 io hf0).drop hc
  | ref id o =>
    simp only [ret1]
    split
    · exact trivial
    · intro ls hf
      obtain ⟨_, f0, hf0, he⟩ := retire_files.1 hf
      cases f0 with
      | cell ls0 => exact h ls0 hf0
      | row es sz u io => cases u <;> simp [retF] at he
  | rref id i o =>
    simp only [ret1]
    split
    · exact trivial
    · intro es sz u io hf
      obtain ⟨_, f0, hf0, he⟩ := retire_files.1 hf
      obtain ⟨u0, rfl, _⟩ := retF_row he
      exact h es sz u0 io hf0
  | lf id i o yl =>
    simp only [ret1]
    split
    · exact trivial
    · intro es sz u io hf
      obtain ⟨_, f0, hf0, he⟩ := retire_files.1 hf
      obtain ⟨u0, rfl, _⟩ := retF_row he
      exact h es sz u0 io hf0
  | undef => exact h
  | dead => exact h
  | _ => exact h.elim

theorem noTup_ret1 {A : Ar} {σ : St} {d : Nat} {s : Slot} (h : noTup s = true) : noTup (ret1 A σ d s) = true ∨ ret1 A σ d s = .dead := by
  cases s with
  | pv r bs => left; cases r <;> simp [ret1, noTup] at h ⊢
  | own id sub =>
    simp only [ret1]
    by_cases hc : cls id = d
    · rw [if_pos hc]
      cases σ.files id with
      | none => right; rfl
      | some f =>
        cases f with
        | cell ls => right; rfl
        | row es sz u io => cases sub <;> (left; rfl)
    · rw [if_neg hc]; left; rfl
  | ref id o => simp only [ret1]; by_cases hc : cls id = d <;> simp [hc, noTup]
  | rref id i o => simp only [ret1]; by_cases hc : cls id = d <;> simp [hc, noTup]
  | _ => simp [noTup] at h

theorem map2_noTup {g : Slot → Slot} {s : Slot} (h : noTup s = true ∨ s = .dead) : map2 g s = g s := by
  rcases h with h | rfl
  · cases s <;> first | rfl | simp [noTup] at h
  · rfl

theorem G.retire {A : Ar} (hA : ∀ es o l, A.sub es o l = (es.drop o).take l) {M : Mp} {σ : St} {a : Act} {w : World} (hg : G E M σ a w) {d : Nat} (hio : NoIo E d) :
    G E (M.drop d) (retire A σ d) a w where
  slots k := (hg.slots k).map (fun s v h => Cl1.retire hA hg hio s v h)
  tmps := hg.tmps
  files id f hf := by
    obtain ⟨hc, f0, hf0, rfl⟩ := retire_files.1 hf
    have h := hg.files id f0 hf0
    cases f0 with
    | cell ls =>
      obtain ⟨h1, c, e, h2, h3⟩ := h
      refine ⟨Mp.drop_some.2 ⟨h1, hc⟩, c, e, h2, ?_⟩
      refine h3.imp fun s v hs => ?_
      rcases hs with ⟨q1, q2, q3⟩ | rfl
      · rw [map2_noTup (.inl q3)]
        rcases noTup_ret1 (A := A) (σ := σ) (d := d) q3 with q | q
        · exact .inl ⟨Cl1.retire hA hg hio s v q1, q2, q⟩
        · exact .inr q
      · exact .inr rfl
    | row es sz u io =>
      obtain ⟨h1, h2, h3, F, h4, h5⟩ := h
      cases u with
      | free => exact ⟨h1, h2, fun hne => let ⟨k1, k2⟩ := h3 hne; ⟨Mp.drop_some.2 ⟨k1, hc⟩, k2⟩, F, h4, h5⟩
      | sh bs => exact ⟨h1, fun hm => h2 (mem_dropB.1 hm).1, fun hne => let ⟨k1, k2⟩ := h3 hne; ⟨Mp.drop_some.2 ⟨k1, hc⟩, k2⟩, F, h4, Good.retire hg hio h5⟩
      | deep z0 zs =>
        exact ⟨h1, h2, fun hne => let ⟨k1, k2⟩ := h3 hne; ⟨Mp.drop_some.2 ⟨k1, hc⟩, k2⟩, F, h4, h5.deep_mono rfl rfl (fun _ => rfl) (fun c q1 q2 => ⟨Mp.drop_some.2 ⟨q1, hc⟩, rfl, q2⟩)⟩
  defers := hg.defers
  own b id h := hg.own b id (Mp.drop_some.1 h).1
  lent b id hb h := hg.lent b id hb (Mp.drop_some.1 h).1
  frame := hg.frame
  size := hg.size
  os := hg.os
  tape := hg.tape
  out := hg.out
  iob id es sz u b hf hk := by
    obtain ⟨_, f0, hf0, e⟩ := retire_files.1 hf
    have hk := (Mp.drop_some.1 hk).1
    cases f0 with
    | cell ls => cases e
    | row es0 sz0 u0 io0 =>
      cases u0 with
      | free => cases e; exact hg.iob _ _ _ _ _ hf0 hk
      | sh bs => cases e; exact hg.iob _ _ _ _ _ hf0 hk
      | deep z0 zs => cases e; exact hg.iob _ _ _ _ _ hf0 hk
  io id b o n sz h := by
    obtain ⟨⟨es, u, h1, h1', h2⟩, h3, h4, h5, h6⟩ := hg.io id b o n sz h
    exact ⟨⟨es, u, retire_files.2 ⟨hio id _ h, _, h1, by cases u <;> first | rfl | cases h1'⟩, h1', h2⟩, h3, h4, Mp.drop_some.2 ⟨h5, hio id _ h⟩, h6⟩

/-! ### Killing -/

theorem kill_files {hdr : Bool} {σ : St} {id j : Nat} {f : File} : (kill hdr σ id).files j = some f ↔ ∃ f0, σ.files j = some f0 ∧ (if j = id then f0 = f else killF hdr id f0 = some f) := by
  unfold kill
  cases hf : σ.files j with
  | none => simp [hf]
  | some f0 =>
    simp only [hf]
    by_cases h : j = id
    · simp [h]
    · simp [h]

theorem kill_row {hdr : Bool} {σ : St} {id j : Nat} {es : List PV} {sz : Nat} {u : RU} {io : Bool} (h : (kill hdr σ id).files j = some (.row es sz u io)) :
    σ.files j = some (.row es sz u io) ∧ (j ≠ id → id ∉ rubs u) := by
  obtain ⟨f0, h1, h2⟩ := kill_files.1 h
  by_cases hj : j = id
  · rw [if_pos hj] at h2; subst h2; exact ⟨h1, fun h => absurd hj h⟩
  · rw [if_neg hj] at h2
    cases f0 with
    | cell ls => simp [killF] at h2
    | row es' sz' u' io' =>
      cases u' with
      | free => simp [killF] at h2; obtain ⟨rfl, rfl, rfl, rfl⟩ := h2; exact ⟨h1, fun _ => by simp [rubs]⟩
      | deep z0 zs => simp [killF] at h2; obtain ⟨rfl, rfl, rfl, rfl⟩ := h2; exact ⟨h1, fun _ => by simp [rubs]⟩
      | sh bs =>
        simp only [killF] at h2
        split at h2
        · cases h2
        · simp at h2; obtain ⟨rfl, rfl, rfl, rfl⟩ := h2
          rename_i hb
          exact ⟨h1, fun _ => by simpa [rubs] using hb⟩

theorem Cl1.kill {hdr : Bool} {M : Mp} {σ : St} {w : World} {id : Nat} (s : Slot) (v : Value) (h : Cl1 E M σ w s v) : Cl1 E M (kill hdr σ id) w (kill1 hdr id s) v := by
  cases s with
  | pv r bs => simp only [kill1]; split <;> first | exact trivial | exact h
  | own j sub =>
    simp only [kill1]
    split
    · exact trivial
    · cases sub with
      | none => intro es sz u io hf; exact h es sz u io (kill_row hf).1
      | some p => obtain ⟨o, l⟩ := p; intro es sz u io hf; exact h es sz u io (kill_row hf).1
  | ref j o =>
    intro ls hf
    obtain ⟨f0, h1, h2⟩ := kill_files.1 hf
    cases f0 with
    | cell ls0 => exact h ls0 h1
    | row es sz u io =>
      by_cases hj : j = id
      · rw [if_pos hj] at h2; cases h2
      · rw [if_neg hj] at h2
        cases u with
        | free => simp [killF] at h2
        | deep z0 zs => simp [killF] at h2
        | sh bs => simp only [killF] at h2; split at h2 <;> simp at h2
  | rref j i o =>
    simp only [kill1]
    split
    · exact trivial
    · intro es sz u io hf; exact h es sz u io (kill_row hf).1
  | lf j i o yl =>
    simp only [kill1]
    split
    · exact trivial
    · intro es sz u io hf; exact h es sz u io (kill_row hf).1
  | undef => exact h
  | dead => exact h
  | _ => exact h.elim

theorem noTup_kill1 {hdr : Bool} {id : Nat} {s : Slot} (h : noTup s = true ∨ s = .dead) : noTup (kill1 hdr id s) = true ∨ kill1 hdr id s = .dead := by
  rcases h with h | rfl
  · cases s with
    | pv r bs => simp only [kill1]; split <;> first | exact .inr rfl | exact .inl h
    | own id sub => simp only [kill1]; split <;> first | exact .inr rfl | exact .inl h
    | ref id o => exact .inl h
    | rref id i o => simp only [kill1]; split <;> first | exact .inr rfl | exact .inl h
    | _ => simp [noTup] at h
  · exact .inr rfl

/-! ### A change of one file -/

/-- The file id is turned: its block is written, or another takes its place. -/
structure Turn (E : Env) (id : Nat) (M M' : Mp) (w w' : World) : Prop where
  heap : ∀ b, b < w.heap.size → M.κ b ≠ some id → w'.heap[b]? = w.heap[b]?
  size : w.heap.size ≤ w'.heap.size
  κ : ∀ b, b < w.heap.size → M.κ b ≠ some id → M'.κ b = M.κ b
  κo : ∀ b j, M.κ b = some id → M'.κ b = some j → j = id
  κn : ∀ b j, w.heap.size ≤ b → M'.κ b = some j → j = id ∧ b < w'.heap.size
  blk : ∀ j, j ≠ id → M'.blk j = M.blk j ∧ M'.off j = M.off j
  os : w'.os = w.os
  tape : TapeLe w w'
  out : w'.output = w.output

theorem Turn.good {M M' : Mp} {w w' : World} {id : Nat} (ht : Turn E id M M' w w') {bs F : List Nat} (h : Good E M w bs F) (hid : id ∉ bs) : Good E M' w' bs F := by
  intro b hb
  obtain ⟨h1, h2⟩ := h b hb
  have hne : M.κ b ≠ some id := by
    intro hk
    rcases h2 with ⟨h2, _⟩ | ⟨j, hj, h2⟩
    · rw [hk] at h2; cases h2
    · rw [hk] at h2; cases h2; exact hid hj
  refine ⟨Nat.lt_of_lt_of_le h1 ht.size, ?_⟩
  rw [ht.κ b h1 hne]
  exact h2

theorem Turn.rep {M M' : Mp} {w w' : World} {id : Nat} (ht : Turn E id M M' w w') {bs F : List Nat} (h : Good E M w bs F) (hid : id ∉ bs) : ∀ b ∈ F, w'.heap[b]? = w.heap[b]? := by
  intro b hb
  obtain ⟨h1, h2⟩ := h b hb
  refine ht.heap b h1 fun hk => ?_
  rcases h2 with ⟨h2, _⟩ | ⟨j, hj, h2⟩
  · rw [hk] at h2; cases h2
  · rw [hk] at h2; cases h2; exact hid hj

theorem Turn.hdr {M M' : Mp} {w w' : World} {id : Nat} (ht : Turn E id M M' w w') {j n sz o l : Nat} {v : Value} (hj : j ≠ id) (hlt : ∀ b i, M.κ b = some i → b < w.heap.size) (h : Hdr M w j n sz o l v) : Hdr M' w' j n sz o l v := by
  obtain ⟨a, cap, h1, h2, h3, h4, h5⟩ := h
  refine ⟨a, cap, h1, h2, h3, h4, fun h0 => ?_⟩
  obtain ⟨k1, k2, c, e, k3, k4⟩ := h5 h0
  obtain ⟨b1, b2⟩ := ht.blk j hj
  have hb := hlt _ _ k2
  have hne : M.κ (M.blk j) ≠ some id := by rw [k2]; intro h; cases h; exact hj rfl
  rw [b1, b2]
  exact ⟨k1, by rw [ht.κ _ hb hne]; exact k2, c, e, by rw [ht.heap _ hb hne]; exact k3, k4⟩

/-- Of a file that is turned in place the headers stay. -/
def SameHdr (M M' : Mp) (w w' : World) (id : Nat) (f f' : File) : Prop :=
  (∀ ls, f' = .cell ls → M'.blk id = M.blk id ∧ ∃ ls0, f = .cell ls0) ∧
  (∀ es sz u io, f' = .row es sz u io → M'.blk id = M.blk id ∧ M'.off id = M.off id ∧ ∃ es0 u0, f = .row es0 sz u0 io ∧ es0.length = es.length ∧
    ∀ o l v, Hdr M w id es.length sz o l v → Hdr M' w' id es.length sz o l v)

theorem putF_files {σ : St} {id j : Nat} {f g : File} : (putF σ id f).files j = some g ↔ (j = id ∧ f = g) ∨ (j ≠ id ∧ σ.files j = some g) := by
  unfold putF upd
  by_cases h : j = id
  · simp [h]
  · simp [h]

theorem Turn.cl1 {hdr : Bool} {M M' : Mp} {σ : St} {a : Act} {w w' : World} (hg : G E M σ a w) {id : Nat} (ht : Turn E id M M' w w') {f f' : File} (hf : σ.files id = some f)
    (hsame : hdr = false → SameHdr M M' w w' id f f') (hcell : hdr = true → ∀ ls, f ≠ .cell ls ∧ f' ≠ .cell ls) (s : Slot) (v : Value) (h : Cl1 E M σ w s v) : Cl1 E M' (putF (kill hdr σ id) id f') w' (kill1 hdr id s) v := by
  have hlt : ∀ b i, M.κ b = some i → b < w.heap.size := fun b i h => hg.own b i h
  have hrow : ∀ {j es sz u io}, j ≠ id → (putF (kill hdr σ id) id f').files j = some (.row es sz u io) → σ.files j = some (.row es sz u io) := fun hj hf => by
    rcases putF_files.1 hf with ⟨h, _⟩ | ⟨_, h⟩
    · exact absurd h hj
    · exact (kill_row h).1
  cases s with
  | pv r bs =>
    simp only [kill1]
    split
    · exact trivial
    · rename_i hb
      obtain ⟨F, h1, h2⟩ := h
      have hid : id ∉ bs := by simpa using hb
      exact ⟨F, h1.mono (ht.rep h2 hid), ht.good h2 hid⟩
  | own j sub =>
    simp only [kill1]
    by_cases hj : j = id
    · subst hj
      cases hdr with
      | true => simp [Cl1]
      | false =>
        simp only [Bool.false_and, Bool.false_eq_true, if_false]
        have hs := (hsame rfl).2
        cases sub with
        | none =>
          intro es sz u io hf'
          rcases putF_files.1 hf' with ⟨_, rfl⟩ | ⟨h, _⟩
          · obtain ⟨_, _, es0, u0, rfl, hlen, hh⟩ := hs es sz u io rfl
            have := h es0 sz u0 io hf
            rw [hlen] at this
            exact hh _ _ _ this
          · exact absurd rfl h
        | some p =>
          obtain ⟨o, l⟩ := p
          intro es sz u io hf'
          rcases putF_files.1 hf' with ⟨_, rfl⟩ | ⟨h, _⟩
          · obtain ⟨_, _, es0, u0, rfl, hlen, hh⟩ := hs es sz u io rfl
            have := h es0 sz u0 io hf
            rw [hlen] at this
            exact hh _ _ _ this
          · exact absurd rfl h
    · have : (hdr && j == id) = false := by simp [hj]
      rw [if_neg (by simp [this])]
      cases sub with
      | none => intro es sz u io hf'; exact ht.hdr hj hlt (h es sz u io (hrow hj hf'))
      | some p => obtain ⟨o, l⟩ := p; intro es sz u io hf'; exact ht.hdr hj hlt (h es sz u io (hrow hj hf'))
  | ref j o =>
    intro ls hf'
    rcases putF_files.1 hf' with ⟨rfl, rfl⟩ | ⟨hj, h'⟩
    · cases hdr with
      | true => exact absurd rfl (hcell rfl ls).2
      | false =>
        obtain ⟨b1, ls0, rfl⟩ := (hsame rfl).1 ls rfl
        rw [b1]; exact h ls0 hf
    · obtain ⟨f0, h1, h2⟩ := kill_files.1 h'
      rw [(ht.blk j hj).1]
      cases f0 with
      | cell ls0 => exact h ls0 h1
      | row es sz u io =>
        rw [if_neg hj] at h2
        cases u with
        | free => simp [killF] at h2
        | deep z0 zs => simp [killF] at h2
        | sh bs => simp only [killF] at h2; split at h2 <;> simp at h2
  | rref j i o =>
    simp only [kill1]
    by_cases hj : j = id
    · subst hj
      cases hdr with
      | true => simp [Cl1]
      | false =>
        simp only [Bool.false_and, Bool.false_eq_true, if_false]
        intro es sz u io hf'
        rcases putF_files.1 hf' with ⟨_, rfl⟩ | ⟨h, _⟩
        · obtain ⟨b1, b2, es0, u0, rfl, hlen, hh⟩ := (hsame rfl).2 es sz u io rfl
          rw [b1, b2]; exact h es0 sz u0 io hf
        · exact absurd rfl h
    · have : (hdr && j == id) = false := by simp [hj]
      rw [if_neg (by simp [this])]
      intro es sz u io hf'
      rw [(ht.blk j hj).1, (ht.blk j hj).2]
      exact h es sz u io (hrow hj hf')
  | lf j i o yl =>
    simp only [kill1]
    split
    · exact trivial
    · rename_i hj
      have hj : j ≠ id := by simpa using hj
      intro es sz u io hf'
      have hf0 := hrow hj hf'
      obtain ⟨⟨x, h1, h2⟩, h3⟩ := h es sz u io hf0
      refine ⟨⟨x, h1, h2⟩, ?_⟩
      obtain ⟨_, _, q2, _⟩ := hg.files _ _ hf0
      have hκ := (q2 (by rintro rfl; simp at h1)).1
      rw [(ht.blk j hj).1, (ht.blk j hj).2, cell?_same (ht.heap _ (hlt _ _ hκ) (by rw [hκ]; intro e; cases e; exact hj rfl))]
      exact h3
  | undef => exact h
  | dead => exact h
  | _ => exact h.elim

theorem G.turn {hdr : Bool} {M M' : Mp} {σ : St} {a : Act} {w w' : World} (hg : G E M σ a w) {id : Nat} (ht : Turn E id M M' w w') {f f' : File} (hf : σ.files id = some f)
    (hsame : hdr = false → SameHdr M M' w w' id f f') (hcell : hdr = true → ∀ ls, f ≠ .cell ls ∧ f' ≠ .cell ls)
    (hnew : ClF E M' (putF (kill hdr σ id) id f') w' id f')
    (hlent : ∀ b, M'.κ b = some id → b < E.w0.heap.size → E.lentB id b)
    (hframe : ∀ b, M.κ b = some id → b < E.w0.heap.size → ∃ i, E.lentB i b)
    (hiob : ∀ es sz u b, f' = .row es sz u true → M'.κ b = some id → b < E.w0.heap.size)
    (hio : ∀ b o n sz, E.io id = some (b, o, n, sz) → (∃ es u, f' = .row es sz u true ∧ notSh u = true ∧ es.length = n) ∧ M'.blk id = b ∧ M'.off id = o ∧ M'.κ b = some id ∧
      ∃ c0 c e, E.w0.heap[b]? = some (.cells c0 e (0, 0)) ∧ w'.heap[b]? = some (.cells c e (0, 0)) ∧ c.size = c0.size ∧ ∀ j, (j < o ∨ o + n * sz ≤ j) → c[j]? = c0[j]?) :
    G E M' (putF (kill hdr σ id) id f') a w' where
  slots k := (hg.slots k).map (fun s v h => ht.cl1 hg hf hsame hcell s v h)
  tmps := hg.tmps
  files j g hj := by
    rcases putF_files.1 hj with ⟨rfl, rfl⟩ | ⟨hne, h'⟩
    · exact hnew
    · obtain ⟨f0, h1, h2⟩ := kill_files.1 h'
      rw [if_neg hne] at h2
      have h := hg.files j f0 h1
      cases f0 with
      | cell ls =>
        simp only [killF, Option.some.injEq] at h2
        subst h2
        obtain ⟨q1, c, e, q2, q3⟩ := h
        have hb := hg.own _ _ q1
        have hk : M.κ (M.blk j) ≠ some id := by rw [q1]; intro h; cases h; exact hne rfl
        refine ⟨by rw [(ht.blk j hne).1, ht.κ _ hb hk]; exact q1, c, e, by rw [(ht.blk j hne).1, ht.heap _ hb hk]; exact q2, ?_⟩
        refine q3.imp fun s v hs => ?_
        rcases hs with ⟨p1, p2, p3⟩ | rfl
        · rw [map2_noTup (.inl p3)]
          rcases noTup_kill1 (hdr := hdr) (id := id) (.inl p3) with q | q
          · exact .inl ⟨ht.cl1 hg hf hsame hcell s v p1, p2, q⟩
          · exact .inr q
        · exact .inr rfl
      | row es sz u io =>
        obtain ⟨q0, q1, q2, F, q3, q4⟩ := h
        have hu : g = .row es sz u io ∧ id ∉ rubs u := by
          cases u with
          | free => simp [killF] at h2; exact ⟨h2.symm, by simp [rubs]⟩
          | deep z0 zs => simp [killF] at h2; exact ⟨h2.symm, by simp [rubs]⟩
          | sh bs =>
            simp only [killF] at h2
            split at h2
            · cases h2
            · rename_i hb; simp at h2; exact ⟨h2.symm, by simpa [rubs] using hb⟩
        obtain ⟨rfl, hu⟩ := hu
        refine ⟨by rw [(ht.blk j hne).2]; exact q0, q1, fun hes => ?_, F, ?_, ?_⟩
        · obtain ⟨k1, c, e, k2⟩ := q2 hes
          have hb := hg.own _ _ k1
          have hk : M.κ (M.blk j) ≠ some id := by rw [k1]; intro h; cases h; exact hne rfl
          exact ⟨by rw [(ht.blk j hne).1, ht.κ _ hb hk]; exact k1, c, e, by rw [(ht.blk j hne).1, ht.heap _ hb hk]; exact k2⟩
        · rw [(ht.blk j hne).1, (ht.blk j hne).2]
          have hF : ∀ b ∈ F, w'.heap[b]? = w.heap[b]? := by
            cases u with
            | free => simp [GoodU] at q4; subst q4; simp
            | sh bs => exact ht.rep q4 hu
            | deep z0 zs => exact fun b hb => ht.heap b (q4.2 b hb).2.1 (by rw [(q4.2 b hb).1]; intro h; cases h; exact hne rfl)
          by_cases hes : es = []
          · subst hes; cases q3; exact .nil _ _ _
          · obtain ⟨k1, _⟩ := q2 hes
            have hb := hg.own _ _ k1
            have hk : M.κ (M.blk j) ≠ some id := by rw [k1]; intro h; cases h; exact hne rfl
            exact q3.mono (ht.heap _ hb hk) hF
        · cases u with
          | free => exact q4
          | sh bs => exact ht.good q4 hu
          | deep z0 zs =>
            have hs : ∀ c, M.κ c = some j → c < w.heap.size → M'.κ c = some j ∧ w'.heap[c]? = w.heap[c]? ∧ c < w'.heap.size := fun c p1 p2 => by
              have hk : M.κ c ≠ some id := by rw [p1]; intro h; cases h; exact hne rfl
              exact ⟨by rw [ht.κ c p2 hk]; exact p1, ht.heap c p2 hk, Nat.lt_of_lt_of_le p2 ht.size⟩
            exact q4.deep_mono (ht.blk j hne).1 (ht.blk j hne).2 (fun hes => by obtain ⟨k1, _⟩ := q2 hes; exact (hs _ k1 (hg.own _ _ k1)).2.1) hs
  defers := hg.defers
  own b j h := by
    rcases Nat.lt_or_ge b w.heap.size with hb | hb
    · by_cases hk : M.κ b = some id
      · exact Nat.lt_of_lt_of_le hb ht.size
      · exact Nat.lt_of_lt_of_le hb ht.size
    · exact (ht.κn b j hb h).2
  lent b j hb h := by
    by_cases hj : j = id
    · subst hj; exact hlent b h hb
    · have hb' := Nat.lt_of_lt_of_le hb hg.size
      by_cases hk : M.κ b = some id
      · exact absurd (ht.κo b j hk h) hj
      · rw [ht.κ b hb' hk] at h; exact hg.lent b j hb h
  frame b hb hno := by
    rw [ht.heap b (Nat.lt_of_lt_of_le hb hg.size) (fun hk => let ⟨i, h⟩ := hframe b hk hb; hno i h)]
    exact hg.frame b hb hno
  size := Nat.le_trans hg.size ht.size
  os := ht.os.trans hg.os
  tape := hg.tape.trans ht.tape
  out := ht.out.trans hg.out
  iob j es sz u b hj hk := by
    rcases putF_files.1 hj with ⟨rfl, rfl⟩ | ⟨hne, h'⟩
    · exact hiob _ _ _ _ rfl hk
    · obtain ⟨f0, h1, h2⟩ := kill_files.1 h'
      rw [if_neg hne] at h2
      have hf0 : ∃ es u, f0 = .row es sz u true := by
        cases f0 with
        | cell ls => simp [killF] at h2
        | row es0 sz0 u0 io0 =>
          cases u0 with
          | free => simp [killF] at h2; obtain ⟨_, rfl, _, rfl⟩ := h2; exact ⟨_, _, rfl⟩
          | deep z0 zs => simp [killF] at h2; obtain ⟨_, rfl, _, rfl⟩ := h2; exact ⟨_, _, rfl⟩
          | sh bs =>
            simp only [killF] at h2
            split at h2
            · cases h2
            · simp at h2; obtain ⟨_, rfl, _, rfl⟩ := h2; exact ⟨_, _, rfl⟩
      obtain ⟨es1, u1, rfl⟩ := hf0
      have hb0 : b < w.heap.size := by
        rcases Nat.lt_or_ge b w.heap.size with hb | hb
        · exact hb
        · exact absurd (ht.κn b j hb hk).1 hne
      have hk0 : M.κ b ≠ some id := fun e => hne (ht.κo b j e hk)
      rw [ht.κ b hb0 hk0] at hk
      exact hg.iob _ _ _ _ _ h1 hk
  io i b o n sz h := by
    by_cases hi : i = id
    · subst hi
      obtain ⟨⟨es, u, h1, h2⟩, h3⟩ := hio b o n sz h
      exact ⟨⟨es, u, putF_files.2 (.inl ⟨rfl, h1⟩), h2⟩, h3⟩
    · obtain ⟨⟨es, u, h1, h1', h2⟩, h3, h4, h5, c0, c, e, h6, h7, h8, h9⟩ := hg.io i b o n sz h
      have hb := hg.own _ _ h5
      have hk : M.κ b ≠ some id := by rw [h5]; intro h; cases h; exact hi rfl
      refine ⟨⟨es, u, putF_files.2 (.inr ⟨hi, kill_files.2 ⟨_, h1, by rw [if_neg hi]; cases u <;> first | rfl | cases h1'⟩⟩), h1', h2⟩, by rw [(ht.blk i hi).1]; exact h3, by rw [(ht.blk i hi).2]; exact h4, by rw [ht.κ b hb hk]; exact h5,
        c0, c, e, h6, by rw [ht.heap b hb hk]; exact h7, h8, h9⟩

end Go.VAI

namespace Go.VAI
variable {E : Env}

theorem Cl1.files {M : Mp} {σ σ' : St} {w : World} (hf : σ'.files = σ.files) (s : Slot) (v : Value) (h : Cl1 E M σ w s v) : Cl1 E M σ' w s v := by
  cases s with
  | own id sub =>
    cases sub with
    | none => intro es sz u io h1; rw [hf] at h1; exact h es sz u io h1
    | some p => obtain ⟨o, l⟩ := p; intro es sz u io h1; rw [hf] at h1; exact h es sz u io h1
  | ref id o => intro ls h1; rw [hf] at h1; exact h ls h1
  | rref id i o => intro es sz u io h1; rw [hf] at h1; exact h es sz u io h1
  | lf id i o yl => intro es sz u io h1; rw [hf] at h1; exact h es sz u io h1
  | _ => exact h

theorem ClF.files {M : Mp} {σ σ' : St} {w : World} (hf : σ'.files = σ.files) {id : Nat} {f : File} (h : ClF E M σ w id f) : ClF E M σ' w id f := by
  cases f with
  | cell ls =>
    obtain ⟨h1, c, e, h2, h3⟩ := h
    refine ⟨h1, c, e, h2, ?_⟩
    have := h3.imp (g := fun x => x) (q := fun s v => Cl1 E M σ' w s v ∧ v.oneCell' = true ∧ noTup s = true ∨ s = .dead) (fun s v hs => hs.imp (fun ⟨p1, p2⟩ => ⟨Cl1.files hf s v p1, p2⟩) (fun h => h))
    simpa using this
  | row es sz u io => exact h

theorem put_getD (a : Act) (d k : Nat) (v : Value) (hd : d < a.tmps.size) : (a.put (some d) v).tmps.getD k undef = if k = d then v else a.tmps.getD k undef := by
  simp only [Act.put, Array.getD_eq_getD_getElem?, Array.getElem?_setIfInBounds]
  by_cases h : d = k
  · subst h; simp [hd]
  · have : ¬ k = d := fun e => h e.symm
    simp [h, this]

theorem G.put {M : Mp} {σ : St} {a : Act} {w : World} (hg : G E M σ a w) {d : Nat} (hd : d < σ.n) {s : Slot} {v : Value} (h : ClS E M σ w s v) : G E M (put σ d s) (a.put (some d) v) w where
  slots k := by
    rw [put_getD _ _ _ _ (by rw [hg.tmps]; exact hd)]
    refine ClS.same (σ := σ) (fun s v h => Cl1.files rfl s v h) ?_
    show ClS E M σ w (upd σ.slots d s k) _
    unfold upd
    by_cases hk : k = d
    · rw [if_pos hk, if_pos hk]; exact h
    · rw [if_neg hk, if_neg hk]; exact hg.slots k
  tmps := by show (a.tmps.setIfInBounds d v).size = σ.n; simpa using hg.tmps
  files id f hf := (hg.files id f hf).files rfl
  defers := hg.defers
  own := hg.own
  lent := hg.lent
  frame := hg.frame
  size := hg.size
  os := hg.os
  tape := hg.tape
  out := hg.out
  iob := hg.iob
  io := hg.io

theorem G.putO {M : Mp} {σ : St} {a : Act} {w : World} (hg : G E M σ a w) {d : Option Nat} (hd : d.all (fun d => Nat.blt d σ.n) = true) {s : Slot} {v : Value} (h : ClS E M σ w s v) : G E M (putO σ d s) (a.put d v) w := by
  cases d with
  | none => exact hg
  | some d => exact hg.put (by simpa [Nat.blt_eq] using hd) h

theorem undef_cl {M : Mp} {σ : St} {w : World} : ClS E M σ w .undef undef := rfl

/-! ### What speaks of a file -/

def nr1 (id : Nat) : Slot → Prop
  | .pv _ bs => id ∉ bs
  | .own j _ => j ≠ id
  | .ref j _ => j ≠ id
  | .rref j _ _ => j ≠ id
  | .lf j _ _ _ => j ≠ id
  | _ => True

def nr2 (id : Nat) : Slot → Prop
  | .ag ls => ∀ s ∈ ls, nr1 id s
  | .clo _ ls => ∀ s ∈ ls, nr1 id s
  | s => nr1 id s

def nrS (id : Nat) : Slot → Prop
  | .tup ls => ∀ s ∈ ls, nr2 id s
  | s => nr2 id s

def nrF (id : Nat) : File → Prop
  | .cell ls => ∀ s ∈ ls, nr1 id s
  | .row _ _ u _ => id ∉ rubs u

structure Fresh (σ : St) (id : Nat) : Prop where
  slots : ∀ k, nrS id (σ.slots k)
  files : ∀ j f, σ.files j = some f → nrF id f
  none : σ.files id = none

theorem nr1_ret {A : Ar} {σ : St} {d id : Nat} (hc : cls id = d) (s : Slot) : nr1 id (ret1 A σ d s) := by
  have hd : ∀ bs, id ∉ dropB d bs := fun bs h => (mem_dropB.1 h).2 hc
  cases s with
  | pv r bs => exact hd bs
  | own j sub =>
    simp only [ret1]
    split
    · split
      · split <;> exact hd _
      · exact trivial
    · rename_i h; intro e; subst e; exact h hc
  | ref j o => simp only [ret1]; split <;> first | exact trivial | (rename_i h; intro e; subst e; exact h hc)
  | rref j i o => simp only [ret1]; split <;> first | exact trivial | (rename_i h; intro e; subst e; exact h hc)
  | lf j i o yl => simp only [ret1]; split <;> first | exact trivial | (rename_i h; intro e; subst e; exact h hc)
  | _ => exact trivial

theorem ret1_leaf {A : Ar} {σ : St} {d : Nat} (s : Slot) : (∀ ls, s ≠ .ag ls) → (∀ f ls, s ≠ .clo f ls) → (∀ ls, s ≠ .tup ls) → (∀ ls, ret1 A σ d s ≠ .ag ls) ∧ (∀ f ls, ret1 A σ d s ≠ .clo f ls) ∧ (∀ ls, ret1 A σ d s ≠ .tup ls) := by
  intro h1 h2 h3
  cases s with
  | own j sub => simp only [ret1]; split <;> (try split) <;> (try split) <;> simp
  | ref j o => simp only [ret1]; split <;> simp
  | rref j i o => simp only [ret1]; split <;> simp
  | lf j i o yl => simp only [ret1]; split <;> simp
  | ag ls => exact absurd rfl (h1 ls)
  | clo f ls => exact absurd rfl (h2 f ls)
  | tup ls => exact absurd rfl (h3 ls)
  | _ => simp [ret1]

theorem nr2_of1 {id : Nat} {s : Slot} (h1 : ∀ ls, s ≠ .ag ls) (h2 : ∀ f ls, s ≠ .clo f ls) (h : nr1 id s) : nr2 id s := by
  cases s with
  | ag ls => exact absurd rfl (h1 ls)
  | clo f ls => exact absurd rfl (h2 f ls)
  | _ => exact h

theorem nrS_of2 {id : Nat} {s : Slot} (h1 : ∀ ls, s ≠ .tup ls) (h : nr2 id s) : nrS id s := by
  cases s with
  | tup ls => exact absurd rfl (h1 ls)
  | _ => exact h

theorem nr2_ret {A : Ar} {σ : St} {d id : Nat} (hc : cls id = d) (s : Slot) (ht : ∀ ls, s ≠ .tup ls) : nr2 id (map2 (ret1 A σ d) s) ∧ ∀ ls, map2 (ret1 A σ d) s ≠ .tup ls := by
  cases s with
  | ag ls => exact ⟨fun s hs => by obtain ⟨t, _, rfl⟩ := List.mem_map.1 hs; exact nr1_ret hc t, by simp [map2]⟩
  | clo f ls => exact ⟨fun s hs => by obtain ⟨t, _, rfl⟩ := List.mem_map.1 hs; exact nr1_ret hc t, by simp [map2]⟩
  | tup ls => exact absurd rfl (ht ls)
  | pv r bs => have := ret1_leaf (A := A) (σ := σ) (d := d) (.pv r bs) (by simp) (by simp) (by simp); exact ⟨nr2_of1 this.1 this.2.1 (nr1_ret (A := A) (σ := σ) hc (.pv r bs)), this.2.2⟩
  | own j sub => have := ret1_leaf (A := A) (σ := σ) (d := d) (.own j sub) (by simp) (by simp) (by simp); exact ⟨nr2_of1 this.1 this.2.1 (nr1_ret (A := A) (σ := σ) hc (.own j sub)), this.2.2⟩
  | ref j o => have := ret1_leaf (A := A) (σ := σ) (d := d) (.ref j o) (by simp) (by simp) (by simp); exact ⟨nr2_of1 this.1 this.2.1 (nr1_ret (A := A) (σ := σ) hc (.ref j o)), this.2.2⟩
  | rref j i o => have := ret1_leaf (A := A) (σ := σ) (d := d) (.rref j i o) (by simp) (by simp) (by simp); exact ⟨nr2_of1 this.1 this.2.1 (nr1_ret (A := A) (σ := σ) hc (.rref j i o)), this.2.2⟩
  | lf j i o yl => have := ret1_leaf (A := A) (σ := σ) (d := d) (.lf j i o yl) (by simp) (by simp) (by simp); exact ⟨nr2_of1 this.1 this.2.1 (nr1_ret (A := A) (σ := σ) hc (.lf j i o yl)), this.2.2⟩
  | undef => exact ⟨trivial, by simp [map2, ret1]⟩
  | dead => exact ⟨trivial, by simp [map2, ret1]⟩

/-- Behind a retiring nothing speaks of the class. -/
theorem retire_fresh {A : Ar} {M : Mp} {σ : St} {a : Act} {w : World} (hg : G E M σ a w) {d id : Nat} (hc : cls id = d) : Fresh (retire A σ d) id := by
  refine ⟨fun k => ?_, fun j f hf => ?_, ?_⟩
  · have h := hg.slots k
    show nrS id (mapS (ret1 A σ d) (σ.slots k))
    cases hs : σ.slots k with
    | tup ls =>
      rw [hs] at h
      obtain ⟨cs, _, h⟩ := h
      intro s hm
      obtain ⟨t, ht, rfl⟩ := List.mem_map.1 hm
      refine (nr2_ret hc t fun ls' e => ?_).1
      subst e
      obtain ⟨j, hj⟩ := List.getElem?_of_mem ht
      have hlen := h.length
      obtain ⟨hlt, _⟩ := List.getElem?_eq_some_iff.1 hj
      exact (h.get hj (List.getElem?_eq_getElem (by omega))).elim
    | _ =>
      simp only [mapS]
      refine nrS_of2 ?_ ?_
      · exact (nr2_ret hc _ (by simp)).2
      · exact (nr2_ret hc _ (by simp)).1
  · obtain ⟨_, f0, hf0, rfl⟩ := retire_files.1 hf
    cases f0 with
    | cell ls =>
      intro s hm
      obtain ⟨t, ht, rfl⟩ := List.mem_map.1 hm
      obtain ⟨_, c, e, _, h3⟩ := hg.files j _ hf0
      obtain ⟨i, hi⟩ := List.getElem?_of_mem ht
      have hlen := h3.length
      obtain ⟨hlt, _⟩ := List.getElem?_eq_some_iff.1 hi
      have := h3.get hi (List.getElem?_eq_getElem (by omega))
      rcases this with ⟨_, _, hn⟩ | rfl
      · rw [map2_noTup (.inl hn)]; exact nr1_ret hc t
      · exact trivial
    | row es sz u io =>
      cases u with
      | free => simp [retF, nrF, rubs]
      | deep z0 zs => simp [retF, nrF, rubs]
      | sh bs => simp only [retF, nrF, rubs]; exact fun h => (mem_dropB.1 h).2 hc
  · show (if cls id = d then none else _) = none
    rw [if_pos hc]

theorem Turn.cl1_new {M M' : Mp} {σ : St} {a : Act} {w w' : World} (hg : G E M σ a w) {id : Nat} (ht : Turn E id M M' w w') {f : File} (s : Slot) (v : Value) (hn : nr1 id s) (h : Cl1 E M σ w s v) :
    Cl1 E M' (putF σ id f) w' s v := by
  have hlt : ∀ b i, M.κ b = some i → b < w.heap.size := fun b i h => hg.own b i h
  have hfile : ∀ {j g}, j ≠ id → (putF σ id f).files j = some g → σ.files j = some g := fun hj hf => by
    rcases putF_files.1 hf with ⟨h, _⟩ | ⟨_, h⟩
    · exact absurd h hj
    · exact h
  cases s with
  | pv r bs => obtain ⟨F, h1, h2⟩ := h; exact ⟨F, h1.mono (ht.rep h2 hn), ht.good h2 hn⟩
  | own j sub =>
    cases sub with
    | none => intro es sz u io hf'; exact ht.hdr hn hlt (h es sz u io (hfile hn hf'))
    | some p => obtain ⟨o, l⟩ := p; intro es sz u io hf'; exact ht.hdr hn hlt (h es sz u io (hfile hn hf'))
  | ref j o => intro ls hf'; rw [(ht.blk j hn).1]; exact h ls (hfile hn hf')
  | rref j i o => intro es sz u io hf'; rw [(ht.blk j hn).1, (ht.blk j hn).2]; exact h es sz u io (hfile hn hf')
  | lf j i o yl =>
    intro es sz u io hf'
    have hf0 := hfile hn hf'
    obtain ⟨⟨x, h1, h2⟩, h3⟩ := h es sz u io hf0
    refine ⟨⟨x, h1, h2⟩, ?_⟩
    obtain ⟨_, _, q2, _⟩ := hg.files _ _ hf0
    have hκ := (q2 (by rintro rfl; simp at h1)).1
    rw [(ht.blk j hn).1, (ht.blk j hn).2, cell?_same (ht.heap _ (hlt _ _ hκ) (by rw [hκ]; intro e; cases e; exact hn rfl))]
    exact h3
  | undef => exact h
  | dead => exact h
  | _ => exact h.elim

theorem All2.imp_mem {α β α' : Type} {p : α → β → Prop} {q : α' → β → Prop} {g : α → α'} : ∀ {xs : List α} {ys : List β}, (∀ x ∈ xs, ∀ y, p x y → q (g x) y) → All2 p xs ys → All2 q (xs.map g) ys
  | _, _, _, .nil => .nil
  | _, _, h, .cons h1 t => .cons (h _ (by simp) _ h1) (t.imp_mem fun x hx y hp => h x (by simp [hx]) y hp)

theorem Turn.clS_new {M M' : Mp} {σ : St} {a : Act} {w w' : World} (hg : G E M σ a w) {id : Nat} (ht : Turn E id M M' w w') {f : File} (s : Slot) (v : Value) (hn : nrS id s) (h : ClS E M σ w s v) :
    ClS E M' (putF σ id f) w' s v := by
  have h2 : ∀ s v, nr2 id s → Cl2 E M σ w s v → Cl2 E M' (putF σ id f) w' s v := by
    intro s v hn h
    cases s with
    | ag ls => obtain ⟨cs, rfl, h⟩ := h; exact ⟨cs, rfl, by simpa using h.imp_mem (g := fun x => x) (fun x hx y hp => ht.cl1_new hg x y (hn x hx) hp)⟩
    | clo f ls => obtain ⟨cs, rfl, h⟩ := h; exact ⟨cs, rfl, by simpa using h.imp_mem (g := fun x => x) (fun x hx y hp => ht.cl1_new hg x y (hn x hx) hp)⟩
    | tup ls => exact h.elim
    | pv r bs => exact ht.cl1_new (f := f) hg (.pv r bs) v hn h
    | own j sub => exact ht.cl1_new hg (.own j sub) v hn h
    | ref j o => exact ht.cl1_new hg (.ref j o) v hn h
    | rref j i o => exact ht.cl1_new hg (.rref j i o) v hn h
    | lf j i o yl => exact ht.cl1_new hg (.lf j i o yl) v hn h
    | undef => exact h
    | dead => exact h
  cases s with
  | tup ls => obtain ⟨cs, rfl, h⟩ := h; exact ⟨cs, rfl, by simpa using h.imp_mem (g := fun x => x) (fun x hx y hp => h2 x y (hn x hx) hp)⟩
  | pv r bs => exact h2 (.pv r bs) v hn h
  | ag ls => exact h2 (.ag ls) v hn h
  | own j sub => exact h2 (.own j sub) v hn h
  | ref j o => exact h2 (.ref j o) v hn h
  | rref j i o => exact h2 (.rref j i o) v hn h
  | lf j i o yl => exact h2 (.lf j i o yl) v hn h
  | clo f ls => exact h2 (.clo f ls) v hn h
  | undef => exact h
  | dead => exact h

theorem G.new {M M' : Mp} {σ : St} {a : Act} {w w' : World} (hg : G E M σ a w) {id : Nat} (ht : Turn E id M M' w w') (hκ : ∀ b, M.κ b ≠ some id) (hfr : Fresh σ id) (hio : E.io id = none) {f : File} (hiof : ∀ es sz u, f ≠ .row es sz u true)
    (hnew : ClF E M' (putF σ id f) w' id f) : G E M' (putF σ id f) a w' where
  slots k := ht.clS_new hg _ _ (hfr.slots k) (hg.slots k)
  tmps := hg.tmps
  files j g hj := by
    rcases putF_files.1 hj with ⟨rfl, rfl⟩ | ⟨hne, h1⟩
    · exact hnew
    · have h := hg.files j g h1
      have hn := hfr.files j g h1
      cases g with
      | cell ls =>
        obtain ⟨q1, c, e, q2, q3⟩ := h
        have hb := hg.own _ _ q1
        refine ⟨by rw [(ht.blk j hne).1, ht.κ _ hb (hκ _)]; exact q1, c, e, by rw [(ht.blk j hne).1, ht.heap _ hb (hκ _)]; exact q2, ?_⟩
        have := q3.imp_mem (g := fun x => x) (q := fun s v => Cl1 E M' (putF σ id f) w' s v ∧ v.oneCell' = true ∧ noTup s = true ∨ s = .dead)
          (fun s hs v h => h.imp (fun ⟨p1, p2⟩ => ⟨ht.cl1_new hg s v (hn s hs) p1, p2⟩) (fun h => h))
        simpa using this
      | row es sz u io =>
        obtain ⟨q0, q1, q2, F, q3, q4⟩ := h
        refine ⟨by rw [(ht.blk j hne).2]; exact q0, q1, fun hes => ?_, F, ?_, ?_⟩
        · obtain ⟨k1, c, e, k2⟩ := q2 hes
          have hb := hg.own _ _ k1
          exact ⟨by rw [(ht.blk j hne).1, ht.κ _ hb (hκ _)]; exact k1, c, e, by rw [(ht.blk j hne).1, ht.heap _ hb (hκ _)]; exact k2⟩
        · rw [(ht.blk j hne).1, (ht.blk j hne).2]
          have hF : ∀ b ∈ F, w'.heap[b]? = w.heap[b]? := by
            cases u with
            | free => simp [GoodU] at q4; subst q4; simp
            | sh bs => exact ht.rep q4 hn
            | deep z0 zs => exact fun b hb => ht.heap b (q4.2 b hb).2.1 (hκ b)
          by_cases hes : es = []
          · subst hes; cases q3; exact .nil _ _ _
          · obtain ⟨k1, _⟩ := q2 hes
            exact q3.mono (ht.heap _ (hg.own _ _ k1) (hκ _)) hF
        · cases u with
          | free => exact q4
          | sh bs => exact ht.good q4 hn
          | deep z0 zs =>
            have hs : ∀ c, M.κ c = some j → c < w.heap.size → M'.κ c = some j ∧ w'.heap[c]? = w.heap[c]? ∧ c < w'.heap.size := fun c p1 p2 =>
              ⟨by rw [ht.κ c p2 (hκ c)]; exact p1, ht.heap c p2 (hκ c), Nat.lt_of_lt_of_le p2 ht.size⟩
            exact q4.deep_mono (ht.blk j hne).1 (ht.blk j hne).2 (fun hes => by obtain ⟨k1, _⟩ := q2 hes; exact (hs _ k1 (hg.own _ _ k1)).2.1) hs
  defers := hg.defers
  own b j h := by
    rcases Nat.lt_or_ge b w.heap.size with hb | hb
    · exact Nat.lt_of_lt_of_le hb ht.size
    · exact (ht.κn b j hb h).2
  lent b j hb h := by
    have hb' := Nat.lt_of_lt_of_le hb hg.size
    rw [ht.κ b hb' (hκ b)] at h
    exact hg.lent b j hb h
  frame b hb hno := by
    rw [ht.heap b (Nat.lt_of_lt_of_le hb hg.size) (hκ b)]
    exact hg.frame b hb hno
  size := Nat.le_trans hg.size ht.size
  os := ht.os.trans hg.os
  tape := hg.tape.trans ht.tape
  out := ht.out.trans hg.out
  iob j es sz u b hj hk := by
    rcases putF_files.1 hj with ⟨rfl, rfl⟩ | ⟨hne, h1⟩
    · exact absurd rfl (hiof _ _ _)
    · have hb0 : b < w.heap.size := by
        rcases Nat.lt_or_ge b w.heap.size with hb | hb
        · exact hb
        · exact absurd (ht.κn b j hb hk).1 hne
      rw [ht.κ b hb0 (hκ b)] at hk
      exact hg.iob _ _ _ _ _ h1 hk
  io i b o n sz h := by
    have hi : i ≠ id := by intro e; subst e; rw [hio] at h; cases h
    obtain ⟨⟨es, u, h1, h2⟩, h3, h4, h5, c0, c, e, h6, h7, h8, h9⟩ := hg.io i b o n sz h
    have hb := hg.own _ _ h5
    exact ⟨⟨es, u, putF_files.2 (.inr ⟨hi, h1⟩), h2⟩, by rw [(ht.blk i hi).1]; exact h3, by rw [(ht.blk i hi).2]; exact h4, by rw [ht.κ b hb (hκ b)]; exact h5,
      c0, c, e, h6, by rw [ht.heap b hb (hκ b)]; exact h7, h8, h9⟩

end Go.VAI

namespace Go.VAI

/-! ### Types -/

def vEq : Value → PV → Bool
  | .int k n, .val (.int k' n') => k == k' && n == n'
  | .bool b, .val (.bool b') => b == b'
  | .slice none 0 0, .val (.slice none 0 0) => true
  | .nilFunc, .val .nilFunc => true
  | _, _ => false

def vsEq : List Value → List PV → Bool
  | [], [] => true
  | v :: vs, x :: xs => vEq v x && vsEq vs xs
  | _, _ => false

def zChk (z : Value) (i : TI) : Bool := match i.ag, z with
  | true, .agg ⟨cs⟩ => vsEq cs i.zero && cs.length == i.size
  | false, v => vsEq [v] i.zero && i.size == 1
  | _, _ => false

def tiChk (P : Program) (t : Nat) (i : TI) : Bool := match P.info? t, P.underlying t with
  | some inf, some d => inf.size == i.size && inf.bytes == i.bytes && (match inf.zero with
      | some z => zChk z i
      | none => false) && (match i.kind, d with
      | .scalar, .int k => !i.ag && (match i.zero with
        | [.val (.int k' _)] => k == k'
        | _ => false)
      | .scalar, .bool => !i.ag && (match i.zero with
        | [.val (.bool _)] => true
        | _ => false)
      | .slice e, .slice e' => e == e' && !i.ag
      | .struct fs, .struct fields => i.ag && fs == (fields.toList.map fun f => (f.offset, f.type)) && (!eqOk t || (!P.stoodInHeld t && !P.eqGuardType P.depth t && fields.toList.all fun f => f.name != "_")) && (fields.toList.all fun f => (P.info? f.type).isSome)
      | _, _ => false)
  | _, _ => false

structure TIok (P : Program) (t : Nat) (i : TI) : Prop where
  info : ∃ inf z cs, P.info? t = some inf ∧ inf.size = i.size ∧ inf.bytes = i.bytes ∧ inf.zero = some z ∧ i.zero = cs.map PV.val ∧ cs.length = i.size ∧ (∀ v ∈ cs, v.oneCell' = true) ∧ z.cells = ⟨cs⟩ ∧
    (i.ag = true → z = .agg ⟨cs⟩) ∧ (i.ag = false → ∃ v, cs = [v] ∧ z = v)
  und : ∃ d, P.underlying t = some d ∧ (i.ag = true → ∃ fs, d = .struct fs ∧ ∃ fs', i.kind = .struct fs') ∧ (i.ag = false → (∀ fs, d ≠ .struct fs) ∧ ∀ n e, d ≠ .array n e) ∧
    (∀ e, i.kind = .slice e → d = .slice e) ∧ (∀ fs, i.kind = .struct fs → ∃ fields, d = .struct fields ∧ fs = (fields.toList.map fun f => (f.offset, f.type)) ∧ ∀ f ∈ fields.toList, (P.info? f.type).isSome = true) ∧
    (∀ k n, i.zero = [.val (.int k n)] → i.kind = .scalar → d = .int k) ∧ (∀ b, i.zero = [.val (.bool b)] → i.kind = .scalar → d = .bool) ∧
    (∀ fs, i.kind = .struct fs → eqOk t = true → P.stoodInHeld t = false ∧ P.eqGuardType P.depth t = false ∧ ∀ fields, d = .struct fields → ∀ f ∈ fields.toList, f.name ≠ "_")

theorem vEq_eq {v : Value} {x : PV} (h : vEq v x = true) : x = .val v ∧ v.oneCell' = true := by
  unfold vEq at h
  split at h
  · simp at h; obtain ⟨rfl, rfl⟩ := h; exact ⟨rfl, rfl⟩
  · simp at h; subst h; exact ⟨rfl, rfl⟩
  · exact ⟨rfl, rfl⟩
  · exact ⟨rfl, rfl⟩
  · cases h

theorem vsEq_eq : ∀ {vs : List Value} {xs : List PV}, vsEq vs xs = true → xs = vs.map PV.val ∧ ∀ v ∈ vs, v.oneCell' = true
  | [], [], _ => ⟨rfl, by simp⟩
  | v :: vs, x :: xs, h => by
    simp only [vsEq, Bool.and_eq_true] at h
    obtain ⟨h1, h2⟩ := vEq_eq h.1
    obtain ⟨h3, h4⟩ := vsEq_eq h.2
    exact ⟨by rw [h1, h3]; rfl, by simpa using ⟨h2, h4⟩⟩
  | [], x :: xs, h => by simp [vsEq] at h
  | v :: vs, [], h => by simp [vsEq] at h

theorem cells_one {v : Value} (h : v.oneCell' = true) : v.cells = #[v] := by cases v <;> first | rfl | simp [Value.oneCell'] at h

theorem tiChk_ok {P : Program} {t : Nat} {i : TI} (h : tiChk P t i = true) : TIok P t i := by
  unfold tiChk at h
  split at h
  · rename_i inf d hi hd
    simp only [Bool.and_eq_true, beq_iff_eq] at h
    obtain ⟨⟨⟨h1, h2⟩, h3⟩, h4⟩ := h
    split at h3
    · rename_i z hz
      refine ⟨?_, ?_⟩
      · cases hag : i.ag with
        | true =>
          cases z with
          | agg cs0 =>
            obtain ⟨cs⟩ := cs0
            simp only [zChk, hag, Bool.and_eq_true, beq_iff_eq] at h3
            obtain ⟨h5, h6⟩ := vsEq_eq h3.1
            exact ⟨inf, _, cs, hi, h1, h2, hz, h5, h3.2, h6, rfl, (fun _ => rfl), (fun h => by cases h)⟩
          | _ => simp [zChk, hag] at h3
        | false =>
          have h3' : (vsEq [z] i.zero && i.size == 1) = true := by
            unfold zChk at h3
            rw [hag] at h3
            exact h3
          simp only [Bool.and_eq_true, beq_iff_eq] at h3'
          obtain ⟨h5, h6⟩ := vsEq_eq h3'.1
          exact ⟨inf, _, [z], hi, h1, h2, hz, h5, h3'.2.symm, h6, cells_one (h6 z (by simp)), (fun h => by cases h), (fun _ => ⟨z, rfl, rfl⟩)⟩
      · refine ⟨d, hd, ?_⟩
        split at h4
        · rename_i k hk
          simp only [Bool.and_eq_true] at h4
          obtain ⟨h4, h5⟩ := h4
          have hag : i.ag = false := by simpa using h4
          refine ⟨(fun h => by rw [hag] at h; cases h), (fun _ => ⟨by simp, by simp⟩), (fun e h => by rw [hk] at h; cases h), (fun fs h => by rw [hk] at h; cases h), (fun k' n hz _ => ?_), (fun b hz _ => ?_), (fun fs h => by rw [hk] at h; cases h)⟩
          · rw [hz] at h5; simp at h5; rw [h5]
          · rw [hz] at h5; simp at h5
        · rename_i hk
          simp only [Bool.and_eq_true] at h4
          obtain ⟨h4, h5⟩ := h4
          have hag : i.ag = false := by simpa using h4
          refine ⟨(fun h => by rw [hag] at h; cases h), (fun _ => ⟨by simp, by simp⟩), (fun e h => by rw [hk] at h; cases h), (fun fs h => by rw [hk] at h; cases h), (fun k' n hz _ => ?_), (fun b hz _ => rfl), (fun fs h => by rw [hk] at h; cases h)⟩
          rw [hz] at h5; simp at h5
        · rename_i e e' hk
          simp only [Bool.and_eq_true, beq_iff_eq] at h4
          obtain ⟨rfl, h4⟩ := h4
          have hag : i.ag = false := by simpa using h4
          exact ⟨(fun h => by rw [hag] at h; cases h), (fun _ => ⟨by simp, by simp⟩), (fun e2 h => by rw [hk] at h; cases h; rfl), (fun fs h => by rw [hk] at h; cases h), (fun k' n _ h => by rw [hk] at h; cases h), (fun b _ h => by rw [hk] at h; cases h), (fun fs h => by rw [hk] at h; cases h)⟩
        · rename_i fs fields hk
          simp only [Bool.and_eq_true, beq_iff_eq] at h4
          obtain ⟨⟨⟨hag, h4⟩, hq⟩, hinf⟩ := h4
          exact ⟨(fun _ => ⟨_, rfl, _, hk⟩), (fun h => by rw [hag] at h; cases h), (fun e h => by rw [hk] at h; cases h), (fun fs2 h => by rw [hk] at h; cases h; exact ⟨_, rfl, h4, fun f hf => List.all_eq_true.1 hinf f hf⟩), (fun k' n _ h => by rw [hk] at h; cases h), (fun b _ h => by rw [hk] at h; cases h), fun fs2 _ he => by
            rw [he] at hq
            simp at hq
            refine ⟨hq.1.1, hq.1.2, fun fields' h => by cases h; intro f hf; obtain ⟨n, hn, hfe⟩ := List.getElem_of_mem hf; have := hq.2 n (by simpa using hn); rw [← hfe]; simpa using this⟩⟩
        · cases h4
    · cases h3
  · cases h

def Tree.all {α : Type} (p : Nat → α → Bool) : Tree α → Bool
  | .leaf => true
  | .node l k v r => l.all p && p k v && r.all p

theorem Tree.all_get {α : Type} {p : Nat → α → Bool} : ∀ {t : Tree α} {k : Nat} {v : α}, t.all p = true → t.get k = some v → p k v = true
  | .leaf, k, v, _, h => by simp [Tree.get] at h
  | .node l j u r, k, v, ha, h => by
    simp only [Tree.all, Bool.and_eq_true] at ha
    simp only [Tree.get] at h
    split at h
    · rename_i e; cases h; subst e; exact ha.1.2
    · split at h
      · exact Tree.all_get ha.1.1 h
      · exact Tree.all_get ha.2 h

def TTok (P : Program) : Prop := ∀ t i, tt t = some i → TIok P t i

theorem tt_ok {P : Program} (h : tts.all (tiChk P) = true) : TTok P := fun _ _ ht => tiChk_ok (Tree.all_get h ht)

theorem elemOf_some {t e : Nat} {i : TI} (h : elemOf t = some (e, i)) : (∃ j, tt t = some j ∧ j.kind = .slice e) ∧ tt e = some i := by
  unfold elemOf at h
  split at h
  · rename_i e' ht
    split at h
    · rename_i i' hi
      cases h
      exact ⟨⟨_, ht, rfl⟩, hi⟩
    · cases h
  · cases h

/-! ### Calls -/

def Callable (P : Program) (f : FuncId) : Prop := ∃ fn, P.funcs[f]? = some fn ∧ fn.body.isSome = true ∧ (fn.name == "runtime.NumGoroutine") = false

def blockOf : Value → Option Nat
  | .slice (some a) _ cap => if cap = 0 then none else some a.block
  | _ => none

/-- One row that is lent: its file in the callee, its elements, the cells of one, the widths below, its header, its blocks. -/
structure Root where
  id : Nat
  es : List PV
  sz : Nat
  zs : List Nat
  v : Value
  N : List Nat

def blkL (v : Value) : List Nat := match blockOf v with
  | some b => [b]
  | none => []

def rootsS (p : Nat) : Nat → List PV → List Value → List Root
  | j, x :: ls, v :: cs => (match x with
    | .sl es => ⟨p + 4096 * (j + 1), es, 1, [], v, blkL v⟩ :: rootsS p (j + 1) ls cs
    | _ => rootsS p (j + 1) ls cs)
  | _, _, _ => []

def rootsP (f : FuncId) (p : Nat) (r : PV) (v : Value) (N : List Nat) : List Root := match r, v with
  | .sl es, v => [⟨p, es, ioSz f, ioDp f, v, N⟩]
  | .agg ls, .agg ⟨cs⟩ => rootsS p 0 ls cs
  | _, _ => []

/-- What is lent. -/
def rootsOf (f : FuncId) (args : List PV) (vs : List Value) (Fs : List (List Nat)) : List Root := match inout f with
  | [p] => (match args[p]?, vs[p]?, Fs[p]? with
    | some r, some v, some N => rootsP f p r v N
    | _, _, _ => [])
  | _ => []

def Lent1 (w : World) (R : Root) : Prop :=
  ∃ a cap, R.v = .slice a R.es.length cap ∧ R.es.length ≤ cap ∧ (cap = 0 → R.N = []) ∧
    (cap ≠ 0 → ∃ b o c e N', a = some ⟨b, o, none⟩ ∧ w.heap[b]? = some (.cells c e (0, 0)) ∧ o + cap * R.sz ≤ c.size ∧ R.N = b :: N' ∧ RowO noOk w R.zs b R.sz o R.es N')

def shapeL : PV → Value → Prop
  | .val u, v => v = u
  | .sl _, _ => True
  | _, _ => False

structure ArgsOk (P : Program) (f : FuncId) (w : World) (args : List PV) (vs : List Value) (Fs : List (List Nat)) : Prop where
  len : vs.length = args.length
  lenF : Fs.length = args.length
  rep : ∀ k r v F, args[k]? = some r → vs[k]? = some v → Fs[k]? = some F → k ∉ inout f → Rep w r v F ∧ (∀ b ∈ F, b < w.heap.size) ∧ ∀ R ∈ rootsOf f args vs Fs, ∀ b ∈ R.N, b ∉ F
  shape : ∀ k r v, args[k]? = some r → vs[k]? = some v → k ∈ inout f → (∃ es, r = .sl es) ∨ ∃ ls cs, r = .agg ls ∧ v = .agg ⟨cs⟩ ∧ All2 (fun x u => shapeL x u ∧ u.oneCell' = true) ls cs
  lent : ∀ R ∈ rootsOf f args vs Fs, Lent1 w R ∧ ∀ b ∈ R.N, b < w.heap.size
  nodup : ((rootsOf f args vs Fs).flatMap Root.N).Nodup
  io : ∀ k ∈ inout f, k < args.length ∧ k < ioMax ∧ k < 4096
  one : inout f = [] ∨ ∃ p, inout f = [p]

/-- The old blocks that the arguments meet. -/
def Feet (f : FuncId) (args : List PV) (vs : List Value) (Fs : List (List Nat)) (b : Nat) : Prop := (∃ k F, Fs[k]? = some F ∧ k ∉ inout f ∧ b ∈ F) ∨ ∃ R ∈ rootsOf f args vs Fs, b ∈ R.N

def RCl1 (w : World) (ok : Nat → Prop) : RS → Value → List Nat → Prop
  | .pv r, v, N => N = [] ∧ ∃ F, Rep w r v F ∧ ∀ b ∈ F, ok b
  | .row es sz u, v, N => (∃ b c e cap F, N = [b] ∧ v = .slice (some ⟨b, 0, none⟩) es.length cap ∧ es.length ≤ cap ∧ cap ≠ 0 ∧ w.heap[b]? = some (.cells c e (0, 0)) ∧ cap * sz ≤ c.size ∧
      RepRow w b sz 0 es F ∧ isDeepU u = false ∧ (u = .free → F = []) ∧ ∀ b ∈ F, ok b) ∨ (N = [] ∧ es = [] ∧ ∃ a, v = .slice a 0 0) ∨
      (∃ z zs, u = .deep z zs ∧ ∃ b c e cap N', N = b :: N' ∧ v = .slice (some ⟨b, 0, none⟩) es.length cap ∧ es.length ≤ cap ∧ cap ≠ 0 ∧ w.heap[b]? = some (.cells c e (0, 0)) ∧ cap * sz ≤ c.size ∧ RowO noOk w (z :: zs) b sz 0 es N')
  | _, _, _ => False

inductive RAll (p : RS → Value → List Nat → Prop) : List RS → List Value → List Nat → Prop
  | nil : RAll p [] [] []
  | cons {x : RS} {v : Value} {N : List Nat} {xs : List RS} {vs : List Value} {N' : List Nat} (h : p x v N) (t : RAll p xs vs N') : RAll p (x :: xs) (v :: vs) (N ++ N')

def RCl2 (w : World) (ok : Nat → Prop) : RS → Value → List Nat → Prop
  | .ag ls, v, N => ∃ cs, v = .agg ⟨cs⟩ ∧ RAll (RCl1 w ok) ls cs N
  | r, v, N => RCl1 w ok r v N

/-- v reads elements o .. o+l of the n that u reads. -/
def ViewOf (w : World) (sz : Nat) (u : Value) (n o l : Nat) (v : Value) : Prop :=
  ∃ a cap, v = .slice a l cap ∧ l ≤ cap ∧ n ≤ o + cap ∧
    (cap ≠ 0 → ∃ b q m cap0 c e, u = .slice (some ⟨b, q, none⟩) m cap0 ∧ cap0 ≠ 0 ∧ a = some ⟨b, q + o * sz, none⟩ ∧ w.heap[b]? = some (.cells c e (0, 0)) ∧ q + (o + cap) * sz ≤ c.size)

def RClS (w : World) (V : Nat → Nat → Nat → Value → Prop) (ok : Nat → Prop) : RS → Value → List Nat → Prop
  | .vw p o l, v, N => N = [] ∧ V p o l v
  | .tup ls, v, N => ∃ cs, v = .tuple ⟨cs⟩ ∧ RAll (RCl2 w ok) ls cs N
  | r, v, N => RCl2 w ok r v N

/-- A lent row behind the call. -/
def Back1 (w w' : World) (R : Root) (es' : List PV) : Prop :=
  es'.length = R.es.length ∧ ∀ b o l cap, R.v = .slice (some ⟨b, o, none⟩) l cap → cap ≠ 0 →
    (∃ N', RowO noOk w' R.zs b R.sz o es' N' ∧ N'.Nodup ∧ ∀ c ∈ N', c ∈ R.N ∧ c ≠ b) ∧
      ∃ c c' e, w.heap[b]? = some (.cells c e (0, 0)) ∧ w'.heap[b]? = some (.cells c' e (0, 0)) ∧ c'.size = c.size ∧ ∀ j, (j < o ∨ o + R.es.length * R.sz ≤ j) → c'[j]? = c[j]?

/-- A struct's leaves behind the call. -/
def fillL : List PV → List (List PV) → List PV
  | [], _ => []
  | .sl _ :: ls, e :: ess => .sl e :: fillL ls ess
  | x :: ls, ess => x :: fillL ls ess

def outsOf (f : FuncId) (args : List PV) (ess : List (List PV)) : List PV := match inout f with
  | [p] => (match args[p]? with
    | some (.agg ls) => [.agg (fillL ls ess)]
    | _ => ess.map .sl)
  | _ => []

structure Post (P : Program) (f : FuncId) (args : List PV) (vs : List Value) (Fs : List (List Nat)) (w w' : World) (v : Value) (rs : RS) (outs : List PV) : Prop where
  res : ∃ N, N.Nodup ∧ (∀ b ∈ N, w.heap.size ≤ b ∧ b < w'.heap.size) ∧ RClS w' (fun p o l v => p ∈ inout f ∧ ∃ u es, vs[p]? = some u ∧ args[p]? = some (.sl es) ∧ o + l ≤ es.length ∧ ViewOf w' (ioSz f) u es.length o l v) (fun b => b < w'.heap.size ∧ b ∉ N ∧ (w.heap.size ≤ b ∨ Feet f args vs Fs b)) rs v N
  outs : ∃ ess, All2 (Back1 w w') (rootsOf f args vs Fs) ess ∧ outs = outsOf f args ess
  frame : ∀ b, b < w.heap.size → (∀ R ∈ rootsOf f args vs Fs, b ∉ R.N) → w'.heap[b]? = w.heap[b]?
  size : w.heap.size ≤ w'.heap.size
  os : w'.os = w.os
  tape : TapeLe w w'
  out : w'.output = w.output

/-- A call of f at these arguments comes to an end with these results. -/
def Does (P : Program) (f : FuncId) (args : List PV) (rs : RS) (outs : List PV) : Prop :=
  ∀ (w : World) (vs : List Value) (Fs : List (List Nat)), ArgsOk P f w args vs Fs →
    Calls P f ⟨vs⟩ w (fun e w' => ∃ v, e = .returned v ∧ Post P f args vs Fs w w' v rs outs)

/-- A call of f at these arguments comes to an end, with a result and written rows for which K holds. -/
def ACall (P : Program) (f : FuncId) (args : List PV) (K : RS → List PV → Prop) : Prop :=
  Callable P f ∧ ∃ rs outs, K rs outs ∧ Does P f args rs outs

/-- What a struct's leaves are in memory. -/
def RawOf : PV → PV → Prop
  | .val v, y => y = .val v
  | .sl es, y => ∃ a cap, y = .val (.slice a es.length cap)
  | _, _ => False

/-- A call of f hands its argument back as it is (b), or else zs. -/
def Passes (P : Program) (f : FuncId) (xs : List PV) (b : Bool) (zs : List PV) : Prop :=
  Callable P f ∧ inout f = [] ∧ zs.all isVal = true ∧ ∀ ys, All2 RawOf xs ys → Does P f [.agg ys] (.tup [.ag ((if b then ys else zs).map RS.pv), .pv (.val (.bool b))]) []

/-- An element of a row as it lies in memory. -/
def rawEl (sz : Nat) (x : PV) : Prop := ∃ ls, x = .agg ls ∧ ls.length = sz ∧ ls.all isVal = true

/-- A call of f turns a row round. -/
def Turns (P : Program) (f : FuncId) (n : Nat) : Prop :=
  Callable P f ∧ inout f = [0] ∧ ioDp f = [] ∧ 0 < ioMax ∧ ∀ es : List PV, es.length = n → (∀ x ∈ es, rawEl (ioSz f) x) → Does P f [.sl es] (.tup []) [.sl es.reverse]

/-- What the record stands for. -/
def stdA (P : Program) : Ar where
  arith op k a b := match op with
    | .add => k.wrap (a + b)
    | .sub => k.wrap (a - b)
    | .mul => k.wrap (a * b)
    | .and => k.wrap (BitVec.ofInt k.bits a &&& BitVec.ofInt k.bits b).toNat
    | .or => k.wrap (BitVec.ofInt k.bits a ||| BitVec.ofInt k.bits b).toNat
    | _ => 0
  divi op k a b := match op with
    | .quo => k.wrap (a.tdiv b)
    | _ => a.tmod b
  shift op k a b := match op with
    | .shl => k.wrap (a * 2 ^ (min b.toNat k.bits))
    | _ => a.fdiv (2 ^ (min b.toNat k.bits))
  conv k n := k.wrap n
  neg k n := k.wrap (0 - n)
  cmp op a b := match op with
    | .eql => a == b
    | .neq => a != b
    | .lss => decide (a < b)
    | .leq => decide (a ≤ b)
    | .gtr => decide (a > b)
    | _ => decide (a ≥ b)
  bnot b := !b
  band a b := a && b
  beq a b := a == b
  mx a b := if b > a then b else a
  mn a b := if b < a then b else a
  len := List.length
  app a b := a ++ b
  setAt l i x := l.set i x
  sub l o n := (l.drop o).take n
  rep := List.replicate
  toN := Int.toNat
  addN a b := a + b
  ofN n := (n : Int)
  nz b K := b ≠ 0 ∧ K ()
  nn b K := 0 ≤ b ∧ K ()
  fits n m K := n * (m + 1) ≤ 140737488355328 ∧ K ()
  rng l h n K := l ≤ h ∧ h ≤ n ∧ K ()
  spl l o ys := l.take o ++ ys ++ l.drop (o + ys.length)
  subN a b := a - b
  idx l i K := ∃ x, l[i]? = some x ∧ K x
  wid l n fl K := (∀ x ∈ l, (leaves x).length = n ∧ (fl = true → isFree x = true)) ∧ K ()
  same l l' K := l.length = l'.length ∧ K ()
  isNil es K := (es ≠ [] → K false) ∧ (es = [] → K true ∧ K false)
  int x K := K x
  bool x K := K x
  nat x K := K x
  row x K := K x
  call f args K := ACall P f args K
  pass f xs K := ∃ b zs, K b zs ∧ Passes P f xs b zs
  rev f es K := Turns P f es.length ∧ K es.reverse
  loop step σ K := ∃ (I : Nat → St → Prop) (n : Nat), I n σ ∧ ∀ n σ, I n σ → step σ (fun ex σ' => match ex with
    | .normal => ∃ m, m < n ∧ I m σ'
    | ex => K ex σ')

end Go.VAI

namespace Go.VAI
variable {E : Env} {P : Program}

/-- What is asked behind a step. -/
def Nx (E : Env) (K : St → Prop) (a : Act) (w : World) : Prop := ∃ M σ, G E M σ a w ∧ K σ

theorem wp_val {o : Oper} {a : Act} {w w' : World} {next : Act → World → Prop} {Q : Exit → Act → World → Prop} {v : Value}
    (h : (execOp a.eval o).run P w = .ok (.value v) w') (hn : next (a.put o.dst v) w') : o.wp P a w next Q := by
  unfold Oper.wp; rw [h]; exact hn

theorem wp_skp {o : Oper} {a : Act} {w w' : World} {next : Act → World → Prop} {Q : Exit → Act → World → Prop}
    (h : (execOp a.eval o).run P w = .ok .skip w') (hn : next (a.put o.dst undef) w') : o.wp P a w next Q := by
  unfold Oper.wp; rw [h]; exact hn

theorem eval_cl {M : Mp} {σ : St} {a : Act} {w : World} (hg : G E M σ a w) (x : Operand) : ClS E M σ w (eval σ x) (a.eval x) := by
  cases x with
  | tmp t => exact hg.slots t
  | const v =>
    simp only [eval, Act.eval]
    split
    · rename_i h; exact ⟨[], .val v h, fun b hb => by simp at hb⟩
    · exact trivial
  | global g => exact trivial
  | func f => exact ⟨[], .fn .nil, fun b hb => by simp at hb⟩

theorem intOf_val {M : Mp} {σ : St} {w : World} {s : Slot} {v : Value} {k : IntKind} {n : Int} (h : intOf s = some (k, n)) (hc : ClS E M σ w s v) : v = .int k n := by
  unfold intOf at h
  split at h
  · cases h
    obtain ⟨F, h1, _⟩ := hc
    cases h1; rfl
  · cases h

theorem boolOf_val {M : Mp} {σ : St} {w : World} {s : Slot} {v : Value} {b : Bool} (h : boolOf s = some b) (hc : ClS E M σ w s v) : v = .bool b := by
  unfold boolOf at h
  split at h
  · cases h
    obtain ⟨F, h1, _⟩ := hc
    cases h1; rfl
  · cases h

theorem val_cl {M : Mp} {σ : St} {w : World} {v : Value} (h : v.oneCell' = true) : ClS E M σ w (.pv (.val v) []) v := ⟨[], .val v h, fun b hb => by simp at hb⟩

section ops
variable {M : Mp} {σ : St} {a : Act} {w : World} {o : Oper} {K : St → Prop} {Q : Exit → Act → World → Prop}

theorem nx_put (hg : G E M σ a w) (hd : o.dst.all (fun d => Nat.blt d σ.n) = true) {s : Slot} {v : Value} (hs : ClS E M σ w s v) (hK : K (putO σ o.dst s)) : Nx E K (a.put o.dst v) w :=
  ⟨M, _, hg.putO hd hs, hK⟩

theorem op_move (hg : G E M σ a w) (hd : o.dst.all (fun d => Nat.blt d σ.n) = true) {x : Operand} (hop : o.op = .move x ∨ o.op = .assign x) (h : K (putO σ o.dst (eval σ x))) : o.wp P a w (Nx E K) Q := by
  refine wp_val (v := a.eval x) (w' := w) ?_ (nx_put hg hd (eval_cl hg x) h)
  rcases hop with hop | hop <;> simp [execOp, hop]

theorem op_pick (hg : G E M σ a w) (hd : o.dst.all (fun d => Nat.blt d σ.n) = true) {c x y : Operand} (hop : o.op = .pick c x y) {t : Bool} (ht : boolOf (eval σ c) = some t)
    (h : K (putO σ o.dst (eval σ (if t then x else y)))) : o.wp P a w (Nx E K) Q := by
  have hv := boolOf_val ht (eval_cl hg c)
  refine wp_val (v := a.eval (if t then x else y)) (w' := w) ?_ (nx_put hg hd (eval_cl hg _) h)
  cases t <;> simp [execOp, hop, hv, asBool]

theorem stdA_cases : True := trivial

theorem op_binInt {op : BinOp} {t t' : TypeId} {x y : Operand} (hop : o.op = .binOp op t x y t') {k k' : IntKind} {m n : Int} (hx : a.eval x = .int k m) (hy : a.eval y = .int k' n) {r : Value}
    (hr : (binOp op t (.int k m) (.int k' n)).run P w = .ok r w) : (execOp a.eval o).run P w = .ok (.value r) w := by
  have hgd : (eqGuard op t x y (.int k m) (.int k' n)).run P w = .ok () w := by
    unfold eqGuard
    split <;> simp
  simp [execOp, hop, hx, hy, hgd, hr]

theorem binS_int (hg : G E M σ a w) {op : BinOp} {t t' : TypeId} {x y : Operand} (hop : o.op = .binOp op t x y t') {k k' : IntKind} {m n : Int} (hx : intOf (eval σ x) = some (k, m)) (hy : intOf (eval σ y) = some (k', n))
    {K' : PV → Prop} (h : binS (stdA P) op t (eval σ x) (eval σ y) K') : ∃ r, (execOp a.eval o).run P w = .ok (.value r) w ∧ r.oneCell' = true ∧ K' (.val r) := by
  have vx := intOf_val hx (eval_cl hg x)
  have vy := intOf_val hy (eval_cl hg y)
  unfold binS at h
  rw [hx, hy] at h
  simp only at h
  cases op <;> simp only [stdA] at h
  case add => split at h
              · rename_i hk; subst hk; exact ⟨_, op_binInt hop vx vy (by simp [binOp, Op.intArith]), rfl, h⟩
              · exact h.elim
  case sub => split at h
              · rename_i hk; subst hk; exact ⟨_, op_binInt hop vx vy (by simp [binOp, Op.intArith]), rfl, h⟩
              · exact h.elim
  case mul => split at h
              · rename_i hk; subst hk; exact ⟨_, op_binInt hop vx vy (by simp [binOp, Op.intArith]), rfl, h⟩
              · exact h.elim
  case or => split at h
             · rename_i hk; subst hk; exact ⟨_, op_binInt hop vx vy (by simp [binOp, Op.intBits]), rfl, h⟩
             · exact h.elim
  case and => split at h
              · rename_i hk; subst hk; exact ⟨_, op_binInt hop vx vy (by simp [binOp, Op.intBits]), rfl, h⟩
              · exact h.elim
  case quo => split at h
              · rename_i hk; subst hk; exact ⟨_, op_binInt hop vx vy (by simp [binOp, Op.intDiv, h.1]), rfl, h.2⟩
              · exact h.elim
  case rem => split at h
              · rename_i hk; subst hk; exact ⟨_, op_binInt hop vx vy (by simp [binOp, Op.intDiv, h.1]), rfl, h.2⟩
              · exact h.elim
  case shl => exact ⟨_, op_binInt hop vx vy (by simp [binOp, Op.shift, Int.not_lt.mpr h.1]), rfl, h.2⟩
  case shr => exact ⟨_, op_binInt hop vx vy (by simp [binOp, Op.shift, Int.not_lt.mpr h.1]), rfl, h.2⟩
  case eql => split at h
              · rename_i hk; subst hk; exact ⟨_, op_binInt hop vx vy (by simp [binOp, Op.intCmp]), rfl, h⟩
              · exact h.elim
  case neq => split at h
              · rename_i hk; subst hk; exact ⟨_, op_binInt hop vx vy (by simp [binOp, Op.intCmp]), rfl, h⟩
              · exact h.elim
  case lss => split at h
              · rename_i hk; subst hk; exact ⟨_, op_binInt hop vx vy (by simp [binOp, Op.intCmp]), rfl, h⟩
              · exact h.elim
  case leq => split at h
              · rename_i hk; subst hk; exact ⟨_, op_binInt hop vx vy (by simp [binOp, Op.intCmp]), rfl, h⟩
              · exact h.elim
  case gtr => split at h
              · rename_i hk; subst hk; exact ⟨_, op_binInt hop vx vy (by simp [binOp, Op.intCmp]), rfl, h⟩
              · exact h.elim
  case geq => split at h
              · rename_i hk; subst hk; exact ⟨_, op_binInt hop vx vy (by simp [binOp, Op.intCmp]), rfl, h⟩
              · exact h.elim


theorem op_bin_run {op : BinOp} {t t' : TypeId} {x y : Operand} (hop : o.op = .binOp op t x y t') {r : Value} (hgd : (eqGuard op t x y (a.eval x) (a.eval y)).run P w = .ok () w)
    (hr : (binOp op t (a.eval x) (a.eval y)).run P w = .ok r w) : (execOp a.eval o).run P w = .ok (.value r) w := by
  simp [execOp, hop, hgd, hr]

theorem aggOf_val {s : Slot} {v : Value} {ls : List PV} (h : aggOf s = some ls) (hc : ClS E M σ w s v) : ∃ cs F, v = .agg ⟨cs⟩ ∧ RepL w ls cs F := by
  unfold aggOf at h
  split at h
  · cases h
    obtain ⟨F, h1, _⟩ := hc
    cases h1 with
    | agg h => exact ⟨_, _, rfl, h⟩
  · rename_i ls0
    obtain ⟨cs, rfl, h2⟩ := hc
    have : ∀ (l0 : List Slot) (l : List PV) (cs : List Value), optAll (fun s => match s with | .pv r _ => some r | _ => none) l0 = some l → All2 (Cl1 E M σ w) l0 cs → ∃ F, RepL w l cs F := by
      intro l0
      induction l0 with
      | nil => intro l cs h h2; cases h2; simp [optAll] at h; subst h; exact ⟨[], .nil⟩
      | cons s l0 ih =>
        intro l cs h h2
        cases h2 with
        | cons h1 h2 =>
          simp only [optAll] at h
          split at h
          · rename_i y hy
            split at h
            · rename_i ys hys
              cases h
              obtain ⟨F, hF⟩ := ih _ _ hys h2
              cases s <;> simp at hy
              subst hy
              obtain ⟨G, hG, _⟩ := h1
              exact ⟨_, .cons hG hF⟩
            · cases h
          · cases h
    obtain ⟨F, hF⟩ := this _ _ _ h h2
    exact ⟨cs, F, rfl, hF⟩
  · cases h

theorem RepL.head {w : World} {x : PV} {xs : List PV} {vs : List Value} {F : List Nat} (h : RepL w (x :: xs) vs F) : ∃ v vs' F' G', vs = v :: vs' ∧ Rep w x v F' ∧ RepL w xs vs' G' := by
  generalize hl : x :: xs = l at h
  cases h with
  | nil => cases hl
  | cons h t => cases hl; exact ⟨_, _, _, _, rfl, h, t⟩

theorem eqLeaves_cons {A : Ar} {x : PV} {xs ys : List PV} {r : Bool} (h : eqLeaves A (x :: xs) ys = some r) :
    ∃ k m n ys' r', x = .val (.int k m) ∧ ys = .val (.int k n) :: ys' ∧ eqLeaves A xs ys' = some r' ∧ r = A.band (A.cmp .eql m n) r' := by
  generalize hl : x :: xs = l at h
  unfold eqLeaves at h
  split at h
  · cases hl
  · cases hl
    split at h
    · rename_i hk
      subst hk
      split at h
      · rename_i r' hr'
        cases h
        exact ⟨_, _, _, _, _, rfl, rfl, hr', rfl⟩
      · cases h
    · cases h
  · cases h

theorem int_rep {w : World} {k : IntKind} {n : Int} {v : Value} {F : List Nat} (h : Rep w (.val (.int k n)) v F) : v = .int k n := by cases h; rfl

theorem eqFields_run (hT : TTok P) : ∀ (fs : List Field) (k : Nat) (xs ys : List PV) (r : Bool), eqFs k (fs.map fun f => (f.offset, f.type)) = true → (∀ f ∈ fs, f.name ≠ "_") → xs.length = fs.length → eqLeaves (stdA P) xs ys = some r →
    ∀ (cx cy : Array Value) (F G : List Nat), RepL w xs (cx.toList.drop k) F → RepL w ys (cy.toList.drop k) G → (Op.eqFields 9999 cx cy fs).run P w = .ok r w
  | [], k, xs, ys, r, _, _, hl, hr, cx, cy, F, G, _, _ => by
    cases xs with
    | nil => cases ys with
      | nil => simp [eqLeaves] at hr; subst hr; simp [Op.eqFields]
      | cons y ys => simp [eqLeaves] at hr
    | cons x xs => simp at hl
  | f :: fs, k, xs, ys, r, he, hn, hl, hr, cx, cy, F, G, hx, hy => by
    cases xs with
    | nil => simp at hl
    | cons x xs =>
      simp only [List.map_cons, eqFs, Bool.and_eq_true, beq_iff_eq] at he
      obtain ⟨⟨h1, h2⟩, h3⟩ := he
      obtain ⟨kx, m, n, ys', r', rfl, rfl, hr', rfl⟩ := eqLeaves_cons hr
      obtain ⟨vx, cx', _, _, ex, rx, tx⟩ := hx.head
      obtain ⟨vy, cy', _, _, ey, ry, ty⟩ := hy.head
      have evx := int_rep rx
      have evy := int_rep ry
      subst evx; subst evy
      split at h2
      · rename_i bz kz nz ht
        have ht' := hT _ _ ht
        obtain ⟨d, hd, _, hna, _, _, hint, _⟩ := ht'.und
        have hdi := hint _ _ rfl rfl
        subst hdi
        have gx : cx[k]? = some (.int kx m) := by
          have := congrArg (·[0]?) ex
          simpa [List.getElem?_drop] using this
        have gy : cy[k]? = some (.int kx n) := by
          have := congrArg (·[0]?) ey
          simpa [List.getElem?_drop] using this
        have px : (Go.part f.type cx f.offset).run P w = .ok (.int kx m) w := by simp [Go.part, isAgg, run_underlying hd, h1, gx]
        have py : (Go.part f.type cy f.offset).run P w = .ok (.int kx n) w := by simp [Go.part, isAgg, run_underlying hd, h1, gy]
        have hq := run_equalIn_int (P := P) w 9998 f.type kx _ m n hd
        have ih := eqFields_run hT fs (k + 1) xs ys' r' h3 (fun f hf => hn f (by simp [hf])) (by simpa using hl) hr' cx cy _ _ (by
          have : cx.toList.drop (k + 1) = cx' := by rw [← List.drop_drop, ex]; rfl
          rw [this]; exact tx) (by
          have : cy.toList.drop (k + 1) = cy' := by rw [← List.drop_drop, ey]; rfl
          rw [this]; exact ty)
        have hname := hn f (by simp)
        simp only [Op.eqFields, hname, ne_eq, not_false_eq_true, if_true, Sem.run_bind, px, py, hq, Result.andThen_ok]
        by_cases hmn : m = n
        · subst hmn; simp [stdA, ih]
        · simp [stdA, hmn]
      · cases h2

theorem binS_run (hT : TTok P) (hg : G E M σ a w) {op : BinOp} {t t' : TypeId} {x y : Operand} (hop : o.op = .binOp op t x y t')
    {K' : PV → Prop} (h : binS (stdA P) op t (eval σ x) (eval σ y) K') : ∃ r, (execOp a.eval o).run P w = .ok (.value r) w ∧ r.oneCell' = true ∧ K' (.val r) := by
  cases hx : intOf (eval σ x) with
  | some p =>
    cases hy : intOf (eval σ y) with
    | some q => exact binS_int hg hop hx hy h
    | none =>
      exfalso
      have h1 : boolOf (eval σ x) = none := by
        unfold intOf at hx; split at hx
        · rename_i e; rw [e]; rfl
        · cases hx
      have h2 : aggOf (eval σ x) = none := by
        unfold intOf at hx; split at hx
        · rename_i e; rw [e]; rfl
        · cases hx
      unfold binS at h
      rw [hx, hy, h1, h2] at h
      revert h; simp only; split <;> simp
  | none =>
    unfold binS at h
    rw [hx] at h
    simp only at h
    split at h
    · rename_i p q hbx hby
      have vx := boolOf_val hbx (eval_cl hg x)
      have vy := boolOf_val hby (eval_cl hg y)
      split at h
      · rename_i hb
        have hd : P.underlying t = some .bool := by
          unfold isBoolT at hb
          split at hb
          · rename_i ht
            obtain ⟨d, hd, _, _, _, _, _, hbool, _⟩ := (hT _ _ ht).und
            rw [hbool _ rfl rfl] at hd; exact hd
          · cases hb
        split at h
        · exact ⟨_, op_bin_run hop (by rw [vx, vy]; rfl) (by rw [vx, vy]; exact run_eql_bool w t _ _ hd), rfl, h⟩
        · exact ⟨_, op_bin_run hop (by rw [vx, vy]; rfl) (by rw [vx, vy]; exact run_neq_bool w t _ _ hd), rfl, h⟩
        · exact h.elim
      · exact h.elim
    · split at h
      · rename_i hq
        split at h
        · rename_i xs ys hax hay
          split at h
          · rename_i hlen
            split at h
            · rename_i r hr
              obtain ⟨cx, F1, vx, rx⟩ := aggOf_val hax (eval_cl hg x)
              obtain ⟨cy, F2, vy, ry⟩ := aggOf_val hay (eval_cl hg y)
              unfold eqOk at hq
              split at hq
              · rename_i n ag by0 z fs ht
                simp only [Bool.and_eq_true, beq_iff_eq] at hq
                obtain ⟨d, hd, _, _, _, hst, _, _, heq⟩ := (hT _ _ ht).und
                obtain ⟨fields, rfl, hfs, _⟩ := hst _ rfl
                obtain ⟨q1, q2, q3⟩ := heq _ rfl (by unfold eqOk; rw [ht]; simpa using hq)
                have hlen : xs.length = fields.toList.length := by
                  have e := congrArg List.length hfs
                  rw [List.length_map] at e
                  rw [hlen, ← e, hq.1]
                  simp [eqLen, ht]
                have hfo : P.fieldsOf t = fields := by simp [Program.fieldsOf, hd]
                have hrun : (Op.equalIn 10000 t (.agg ⟨cx⟩) (.agg ⟨cy⟩)).run P w = .ok r w := by
                  have := run_equalIn_struct (P := P) w 9999 t ⟨cx⟩ ⟨cy⟩ (by rw [hfo]; exact hd) q1
                  rw [this, hfo]
                  exact eqFields_run hT fields.toList 0 xs ys r (by rw [← hfs]; exact hq.2) (q3 _ rfl) hlen hr ⟨cx⟩ ⟨cy⟩ _ _ (by simpa using rx) (by simpa using ry)
                split at h
                · exact ⟨_, op_bin_run hop (by rw [vx, vy]; exact run_eqGuard_agg w _ _ _ _ _ _ q2) (by rw [vx, vy, run_eql_struct, hrun]; rfl), rfl, h⟩
                · exact ⟨_, op_bin_run hop (by rw [vx, vy]; exact run_eqGuard_agg w _ _ _ _ _ _ q2) (by rw [vx, vy, run_neq_struct, hrun]; rfl), rfl, h⟩
                · exact h.elim
              · cases hq
            · exact h.elim
          · exact h.elim
        · exact h.elim
      · exact h.elim

theorem op_binOp (hT : TTok P) (hg : G E M σ a w) (hd : o.dst.all (fun d => Nat.blt d σ.n) = true) {op : BinOp} {t t' : TypeId} {x y : Operand} (hop : o.op = .binOp op t x y t')
    (h : binS (stdA P) op t (eval σ x) (eval σ y) (fun r => K (putO σ o.dst (.pv r [])))) : o.wp P a w (Nx E K) Q := by
  obtain ⟨r, h1, h2, h3⟩ := binS_run hT hg hop h
  exact wp_val h1 (nx_put hg hd (val_cl h2) h3)

theorem op_unOp (hg : G E M σ a w) (hd : o.dst.all (fun d => Nat.blt d σ.n) = true) {op : UnOp} {t : TypeId} {x : Operand} (hop : o.op = .unOp op t x)
    (h : unS (stdA P) op (eval σ x) (fun r => K (putO σ o.dst (.pv r [])))) : o.wp P a w (Nx E K) Q := by
  unfold unS at h
  split at h
  · rename_i k n hi
    have vx := intOf_val hi (eval_cl hg x)
    exact wp_val (v := .int k (k.wrap (0 - n))) (w' := w) (by simp [execOp, hop, vx, unary_neg, Op.intArith]) (nx_put hg hd (val_cl rfl) h)
  · rename_i b hb
    have vx := boolOf_val hb (eval_cl hg x)
    exact wp_val (v := .bool !b) (w' := w) (by simp [execOp, hop, vx, unary_not]) (nx_put hg hd (val_cl rfl) h)
  · exact h.elim

theorem op_convert (hT : TTok P) (hg : G E M σ a w) (hd : o.dst.all (fun d => Nat.blt d σ.n) = true) {t' t : TypeId} {x : Operand} (hop : o.op = .convert t' t x) {i' : TI} (hi' : tt t' = some i')
    (h : convS (stdA P) t (eval σ x) (fun r => K (putO σ o.dst (.pv r [])))) : o.wp P a w (Nx E K) Q := by
  unfold convS at h
  split at h
  · rename_i kd n0 k n ht hi
    have vx := intOf_val hi (eval_cl hg x)
    obtain ⟨d, hd1, _⟩ := (hT _ _ hi').und
    obtain ⟨d2, hd2, _, _, _, _, hint, _⟩ := (hT _ _ ht).und
    have := hint _ _ rfl rfl
    subst this
    exact wp_val (v := .int kd (kd.wrap n)) (w' := w) (by simp [execOp, hop, vx, convert, run_underlying hd1, run_underlying hd2, Conv.intToInt]) (nx_put hg hd (val_cl rfl) h)
  · exact h.elim

end ops
end Go.VAI
