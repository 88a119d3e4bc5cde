/- An abstract machine for Go code as the model has it: deterministic, over abstract values and an abstract heap. Definitions alone. -/
import GoSem.Step
namespace Go.Abs
noncomputable section

/-- One of two, by a bool. -/
abbrev sel {β : Type} (c : Bool) (t e : β) : β := Bool.rec (motive := fun _ => β) e t c

/-! Trees with numbers as keys -/

inductive Tree (α : Type) where
  | leaf
  | node (v : Option α) (a b c d : Tree α)

namespace Tree
variable {α : Type}

/-- One of four. -/
abbrev pick4 {β : Type} (i : Nat) (a b c d : β) : β :=
  Nat.rec (motive := fun _ => β) a (fun i _ => Nat.rec (motive := fun _ => β) b (fun i _ => Nat.rec (motive := fun _ => β) c (fun _ _ => d) i) i) i

def get (t : Tree α) : Nat → Option α :=
  Tree.rec (motive := fun _ => Nat → Option α) (fun _ => none)
    (fun v _ _ _ _ ga gb gc gd k => Nat.rec (motive := fun _ => Option α) v
      (fun k _ => pick4 (Nat.mod k (nat_lit 4)) ga gb gc gd (Nat.div k (nat_lit 4))) k) t

/-- A tree that is worked out first. -/
def strict {β : Type} (t : Tree α) (f : Tree α → β) : β :=
  Tree.rec (motive := fun _ => β) (f .leaf) (fun v a b c d _ _ _ _ => f (.node v a b c d)) t

def sing (f : Nat) : Nat → Option α → Tree α :=
  Nat.rec (motive := fun _ => Nat → Option α → Tree α) (fun _ v => .node v .leaf .leaf .leaf .leaf)
    (fun _ ih k v => Nat.rec (motive := fun _ => Tree α) (.node v .leaf .leaf .leaf .leaf)
      (fun k _ => pick4 (Nat.mod k (nat_lit 4))
        (strict (ih (Nat.div k (nat_lit 4)) v) fun t => .node none t .leaf .leaf .leaf)
        (strict (ih (Nat.div k (nat_lit 4)) v) fun t => .node none .leaf t .leaf .leaf)
        (strict (ih (Nat.div k (nat_lit 4)) v) fun t => .node none .leaf .leaf t .leaf)
        (strict (ih (Nat.div k (nat_lit 4)) v) fun t => .node none .leaf .leaf .leaf t)) k) f

def put (t : Tree α) : Nat → Option α → Tree α :=
  Tree.rec (motive := fun _ => Nat → Option α → Tree α) (fun k v => sing k k v)
    (fun x a b c d pa pb pc pd k v => Nat.rec (motive := fun _ => Tree α) (.node v a b c d)
      (fun k _ => pick4 (Nat.mod k (nat_lit 4))
        (strict (pa (Nat.div k (nat_lit 4)) v) fun t => .node x t b c d)
        (strict (pb (Nat.div k (nat_lit 4)) v) fun t => .node x a t c d)
        (strict (pc (Nat.div k (nat_lit 4)) v) fun t => .node x a b t d)
        (strict (pd (Nat.div k (nat_lit 4)) v) fun t => .node x a b c t)) k) t

def ofList (l : List α) : Nat → Tree α → Tree α :=
  List.rec (motive := fun _ => Nat → Tree α → Tree α) (fun _ t => t) (fun x _ ih i t => ih (Nat.succ i) (put t i (some x))) l
end Tree

/-! Values -/

inductive AV where
  | bool (b : Bool)
  | int (k : IntKind) (n : Int)
  | str (s : List Nat)
  | ptr (b o : Nat)
  | nilp
  /-- a slice: at least so many places, or just so many ('ex'); else its elements have 'es' cells -/
  | slc (b o len cap : Nat) (ex : Bool) (es : Nat)
  | nils
  | map (b : Nat)
  | nilm
  | fn (f : Fn) (first captured : List AV)
  | nilf
  | ifc (t : TypeId) (v : AV)
  | nili
  | agg (cs : List AV)
  | tup (vs : List AV)
  | any

def AV.undef : AV := .tup []
def AV.cells : AV → List AV
  | .agg cs => cs
  | v => [v]
/-- May it stand in one cell? -/
def AV.one : AV → Bool
  | .agg _ | .tup _ | .any => false
  | _ => true

def kindEq : IntKind → IntKind → Bool
  | .i8, .i8 | .i16, .i16 | .i32, .i32 | .i64, .i64 | .u8, .u8 | .u16, .u16 | .u32, .u32 | .u64, .u64 => true
  | _, _ => false
def intEq : Int → Int → Bool
  | .ofNat a, .ofNat b => Nat.beq a b
  | .negSucc a, .negSucc b => Nat.beq a b
  | _, _ => false
def natsEq (x : List Nat) : List Nat → Bool :=
  List.rec (motive := fun _ => List Nat → Bool) (fun y => List.rec (motive := fun _ => Bool) true (fun _ _ _ => false) y)
    (fun a _ ih y => List.rec (motive := fun _ => Bool) false (fun b y _ => sel (Nat.beq a b) (ih y) false) y) x
def boolEq : Bool → Bool → Bool
  | true, b => b
  | false, b => !b

mutual
/-- The same, by its make. ('any' is like nothing.) -/
def AV.beq : AV → AV → Bool
  | .bool a, .bool b => boolEq a b
  | .int j a, .int k b => kindEq j k && intEq a b
  | .str a, .str b => natsEq a b
  | .ptr a i, .ptr b j => Nat.beq a b && Nat.beq i j
  | .nilp, .nilp => true
  | .slc a i m c x p, .slc b j n d y q => Nat.beq a b && Nat.beq i j && Nat.beq m n && Nat.beq c d && boolEq x y && Nat.beq p q
  | .nils, .nils => true
  | .map a, .map b => Nat.beq a b
  | .nilm, .nilm => true
  | .fn f a b, .fn g c d => decide (f = g) && AV.beqL a c && AV.beqL b d
  | .nilf, .nilf => true
  | .ifc t v, .ifc u w => Nat.beq t u && AV.beq v w
  | .nili, .nili => true
  | .agg a, .agg b => AV.beqL a b
  | .tup a, .tup b => AV.beqL a b
  | _, _ => false
def AV.beqL : List AV → List AV → Bool
  | [], [] => true
  | a :: x, b :: y => bif AV.beq a b then AV.beqL x y else false
  | _, _ => false
end

def bytesOf (s : ByteArray) : List Nat := s.data.toList.map UInt8.toNat

mutual
/-- A constant of the code. -/
def toAV : Value → Option AV
  | .bool b => some (.bool b)
  | .int k n => some (.int k n)
  | .string s => some (.str (bytesOf s))
  | .pointer none => some .nilp
  | .slice none 0 0 => some .nils
  | .map none => some .nilm
  | .nilFunc => some .nilf
  | .nilIface => some .nili
  | .agg ⟨cs⟩ => match toAVs cs with | some l => some (.agg l) | none => none
  | .tuple ⟨cs⟩ => match toAVs cs with | some l => some (.tup l) | none => none
  | .iface t v => match toAV v with | some x => some (.ifc t x) | none => none
  | .func (.func f) ⟨[]⟩ ⟨[]⟩ => some (.fn (.func f) [] [])
  | _ => none
def toAVs : List Value → Option (List AV)
  | [] => some []
  | v :: r => match toAV v with
    | some x => match toAVs r with
      | some l => some (x :: l)
      | none => none
    | none => none
end

/-! The heap -/

structure ADef where
  fn : Fn
  captured : List AV
  args : List AV
/-- A deferred call, or the mark of a block of such. -/
inductive ADefer where
  | call (d : ADef)
  | mark (b : Nat)

structure ALoop where
  state : LoopState
  pending : Option Code
  fn : FuncId
  tmps : Tree AV
  nt : Nat
  keep : Tree Unit
  params : List Tmp
  assign : Code
  body : Code
  defers : Nat

inductive AObj where
  | row (cls lo hi : Nat) (cells : Tree AV) (elem : TypeId) (wr : Bool)
  | map (es : List (AV × AV × Nat)) (clock : Nat)
  | iter (s : List Nat) (pos : Nat)
  | loop (l : ALoop)
  | defd (ds : Option (List ADefer))

structure AHeap where
  objs : Tree AObj
  next : Nat
  cls : Tree (List Nat)

/-- A heap whose tree of objects is worked out first. -/
def mkHeap (objs : Tree AObj) (next : Nat) (cls : Tree (List Nat)) : AHeap :=
  objs.strict fun objs => ⟨objs, next, cls⟩

def AHeap.setObj (A : AHeap) (r : Nat) (o : AObj) : AHeap :=
  match A with
  | ⟨objs, next, cls⟩ => mkHeap (objs.put r (some o)) next cls

def AHeap.new (A : AHeap) (o : AObj) : Nat × AHeap :=
  match A with
  | ⟨objs, next, cls⟩ => (next, mkHeap (objs.put next (some o)) (Nat.succ next) cls)

/-- A new row: a class of its own. -/
def AHeap.newRow (A : AHeap) (elem : TypeId) (cells : List AV) : Nat × AHeap :=
  match A with
  | ⟨objs, next, cls⟩ => (next, mkHeap (objs.put next (some (.row next 0 cells.length (Tree.ofList cells 0 .leaf) elem true))) (Nat.succ next) (cls.put next (some [next])))

def cellAt (lo hi : Nat) (cells : Tree AV) (o : Nat) : Option AV :=
  bif Nat.ble lo o && Nat.blt o hi then cells.get o else none

def consOpt {α : Type} (v : Option α) (l : Option (List α)) : Option (List α) :=
  Option.rec (motive := fun _ => Option (List α)) none (fun v => Option.rec (motive := fun _ => Option (List α)) none (fun l => some (v :: l)) l) v
def cellsAt (lo hi : Nat) (cells : Tree AV) (o n : Nat) : Option (List AV) :=
  Nat.rec (motive := fun _ => Nat → Option (List AV)) (fun _ => some []) (fun _ ih o => consOpt (cellAt lo hi cells o) (ih (Nat.succ o))) n o

def AHeap.cell (A : AHeap) (b o : Nat) : Option AV :=
  match A.objs.get b with
  | some (.row _ lo hi cells _ _) => cellAt lo hi cells o
  | _ => none
def AHeap.cells (A : AHeap) (b o n : Nat) : Option (List AV) :=
  match A.objs.get b with
  | some (.row _ lo hi cells _ _) => cellsAt lo hi cells o n
  | _ => none

/-- All others of a class that reach beyond a place are forgotten. -/
def prune (objs : Tree AObj) (keep p : Nat) : List Nat → Tree AObj
  | [] => objs
  | m :: r =>
    prune (bif Nat.beq m keep then objs else
      match objs.get m with
      | some (.row _ _ hi _ _ _) => bif Nat.ble hi p then objs else objs.put m none
      | _ => objs) keep p r

/-- Those of a class that are left then. -/
def stay (objs : Tree AObj) (keep p : Nat) : List Nat → List Nat
  | [] => []
  | m :: r =>
    bif Nat.beq m keep then m :: stay objs keep p r else
      match objs.get m with
      | some (.row _ _ hi _ _ _) => bif Nat.ble hi p then m :: stay objs keep p r else stay objs keep p r
      | _ => stay objs keep p r

def setCells (cells : Tree AV) (o : Nat) (vs : List AV) : Tree AV :=
  List.rec (motive := fun _ => Tree AV → Nat → Tree AV) (fun t _ => t) (fun v _ ih t o => ih (t.put o (some v)) (Nat.succ o)) vs cells o

def allOne (l : List AV) : Bool := List.rec (motive := fun _ => Bool) true (fun v _ ih => sel v.one ih false) l

/-- A store of some cells. -/
def AHeap.store (A : AHeap) (b o : Nat) (vs : List AV) : Option AHeap :=
  match A with
  | ⟨objs, next, cls⟩ => match objs.get b with
    | some (.row c lo hi cells elem true) =>
      sel (Nat.ble lo o) (sel (Nat.ble (Nat.add o vs.length) hi) (sel (allOne vs)
        (match cls.get c with
          | some ms => some (mkHeap ((prune objs b o ms).put b (some (.row c lo hi (setCells cells o vs) elem true))) next (cls.put c (some (stay objs b o ms))))
          | none => none)
        none) none) none
    | _ => none

/-! Tables -/

structure Tabs where
  ty : Tree TypeInfo
  fns : Tree Func
  /-- types whose comparison meets neither an interface nor a stand-in -/
  plain : Tree Unit
  /-- functions without a body: 0 looks for a byte in a string, 1 gives its argument back -/
  ext : Tree Nat
  /-- how many variables the program has -/
  glob : Nat

def Tabs.und (T : Tabs) (t : TypeId) : Option TypeDesc :=
  match T.ty.get t with
  | some i => match i.desc with
    | .named _ u => match T.ty.get u with
      | some j => some j.desc
      | none => none
    | d => some d
  | none => none
def Tabs.size (T : Tabs) (t : TypeId) : Option Nat :=
  match T.ty.get t with
  | some i => some i.size
  | none => none
def Tabs.agg (T : Tabs) (t : TypeId) : Option Bool :=
  match T.und t with
  | some (.struct _) | some (.array _ _) => some true
  | some _ => some false
  | none => none
def Tabs.zero (T : Tabs) (t : TypeId) : Option AV :=
  match T.ty.get t with
  | some i => match i.zero with
    | some v => toAV v
    | none => none
  | none => none

/-! Operations -/

inductive ARes where
  | val (v : AV)
  | skip
  | enter (f : FuncId) (args : List AV)
  | round (l : Nat) (args : List AV)
  | defer (d : ADef)
  | recover
  | panic (v : AV)

def takeN : Nat → List AV → List AV
  | 0, _ => []
  | n + 1, v :: r => v :: takeN n r
  | _ + 1, [] => []
def dropN {α : Type} : Nat → List α → List α
  | 0, l => l
  | n + 1, _ :: r => dropN n r
  | _ + 1, [] => []
def takeB : Nat → List Nat → List Nat
  | 0, _ => []
  | n + 1, v :: r => v :: takeB n r
  | _ + 1, [] => []
def nth {α : Type} (l : List α) : Nat → Option α :=
  List.rec (motive := fun _ => Nat → Option α) (fun _ => none) (fun v _ ih n => Nat.rec (motive := fun _ => Option α) (some v) (fun m _ => ih m) n) l

def part (T : Tabs) (t : TypeId) (cs : List AV) (off : Nat) : Option AV :=
  match T.agg t, T.size t with
  | some true, some n => bif Nat.ble (off + n) cs.length then some (.agg (takeN n (dropN off cs))) else none
  | some false, _ => nth cs off
  | _, _ => none

def loadVar (T : Tabs) (A : AHeap) (t : TypeId) (b o : Nat) : Option AV :=
  match T.agg t with
  | some true => match T.size t with
    | some n => match A.cells b o n with
      | some l => some (.agg l)
      | none => none
    | none => none
  | some false => A.cell b o
  | none => none

def storeVar (T : Tabs) (A : AHeap) (t : TypeId) (b o : Nat) (v : AV) : Option AHeap :=
  match T.size t with
  | some n => bif Nat.beq v.cells.length n then A.store b o v.cells else none
  | none => none

/-- Parts over cells. -/
def over {α : Type} (cells : List α) (off : Nat) (vs : List α) : List α :=
  match off, cells with
  | 0, cs => vs ++ dropN vs.length cs
  | n + 1, c :: cs => c :: over cs n vs
  | _ + 1, [] => []

def fill (place : Nat → Option (Nat × Nat)) (cells : List AV) : List (Nat × AV) → Option (List AV)
  | [] => some cells
  | (i, v) :: rest =>
    match place i with
    | none => none
    | some (off, size) =>
      bif Nat.beq v.cells.length size && Nat.ble (off + size) cells.length then fill place (over cells off v.cells) rest else none

def fieldPlaces (T : Tabs) : List Field → Option (List (Nat × Nat))
  | [] => some []
  | f :: r => match T.size f.type, fieldPlaces T r with
    | some n, some l => some ((f.offset, n) :: l)
    | _, _ => none

def build (T : Tabs) (t : TypeId) (parts : List (Nat × AV)) : Option AV :=
  match T.zero t, T.und t with
  | some z, some (.struct ⟨fields⟩) =>
    match fieldPlaces T fields with
    | some ps => match fill (nth ps) z.cells parts with
      | some cs => some (.agg cs)
      | none => none
    | none => none
  | some z, some (.array _ elem) =>
    match T.size elem with
    | some n => match fill (fun i => some (i * n, n)) z.cells parts with
      | some cs => some (.agg cs)
      | none => none
    | none => none
  | _, _ => none

def repeated : Nat → List AV → List AV
  | 0, _ => []
  | n + 1, l => l ++ repeated n l

def buildSlice (T : Tabs) (A : AHeap) (t : TypeId) (len : Nat) (parts : List (Nat × AV)) : Option (AV × AHeap) :=
  match T.und t with
  | some (.slice elem) =>
    match T.size elem, T.zero elem with
    | some n, some z =>
      bif Nat.beq z.cells.length n && Nat.ble (len * n) 16777216 then
        match fill (fun i => some (i * n, n)) (repeated len z.cells) parts with
        | some cs => bif allOne cs then match A.newRow elem cs with
          | (b, A') => some (.slc b 0 len len true 0, A') else none
        | none => none
      else none
    | _, _ => none
  | _ => none

def wrapI (k : IntKind) (n : Int) : AV := .int k (k.wrap n)

def intBin (op : BinOp) (k : IntKind) (x y : Int) : Option AV :=
  match op with
  | .add => some (wrapI k (x + y))
  | .sub => some (wrapI k (x - y))
  | .mul => some (wrapI k (x * y))
  | .quo => if y = 0 then none else some (wrapI k (x.tdiv y))
  | .rem => if y = 0 then none else some (.int k (x.tmod y))
  | .and => some (wrapI k ((BitVec.ofInt k.bits x &&& BitVec.ofInt k.bits y).toNat))
  | .or => some (wrapI k ((BitVec.ofInt k.bits x ||| BitVec.ofInt k.bits y).toNat))
  | .xor => some (wrapI k ((BitVec.ofInt k.bits x ^^^ BitVec.ofInt k.bits y).toNat))
  | .andNot => some (wrapI k ((BitVec.ofInt k.bits x &&& ~~~(BitVec.ofInt k.bits y)).toNat))
  | .eql => some (.bool (x == y))
  | .neq => some (.bool (x != y))
  | .lss => some (.bool (x < y))
  | .leq => some (.bool (x ≤ y))
  | .gtr => some (.bool (x > y))
  | .geq => some (.bool (x ≥ y))
  | .shl | .shr => none

def shiftI (op : BinOp) (k : IntKind) (x y : Int) : Option AV :=
  if y < 0 then none else
  match op with
  | .shl => some (wrapI k (x * 2 ^ (min y.toNat k.bits)))
  | .shr => some (.int k (x.fdiv (2 ^ (min y.toNat k.bits))))
  | _ => none

def natsLess : List Nat → List Nat → Bool
  | _, [] => false
  | [], _ :: _ => true
  | a :: x, b :: y => bif Nat.blt a b then true else bif Nat.beq a b then natsLess x y else false

def strBin (op : BinOp) (x y : List Nat) : Option AV :=
  match op with
  | .add => bif Nat.ble (x.length + y.length) 1000000000000 then some (.str (x ++ y)) else none
  | .eql => some (.bool (natsEq x y))
  | .neq => some (.bool (!natsEq x y))
  | .lss => some (.bool (natsLess x y))
  | .leq => some (.bool (natsLess x y || natsEq x y))
  | .gtr => some (.bool (!(natsLess x y || natsEq x y)))
  | .geq => some (.bool (!natsLess x y))
  | _ => none

def allM {α : Type} (f : α → Option Bool) : List α → Option Bool
  | [] => some true
  | x :: r => match f x with
    | some true => allM f r
    | some false => some false
    | none => none

/-- Are two values of a type the same? -/
def equalIn (T : Tabs) (A : AHeap) : Nat → TypeId → AV → AV → Option Bool
  | 0, _, _, _ => none
  | d + 1, t, x, y =>
    match x, y with
    | .bool a, .bool b => match T.und t with
      | some .bool => some (boolEq a b)
      | _ => none
    | .int k a, .int k' b => match T.und t with
      | some (.int _) => bif kindEq k k' then some (intEq a b) else none
      | _ => none
    | .str a, .str b => match T.und t with
      | some .string => some (natsEq a b)
      | _ => none
    | .nilp, .nilp => match T.und t with
      | some (.pointer _) => some true
      | _ => none
    | .nilp, .ptr _ _ | .ptr _ _, .nilp => match T.und t with
      | some (.pointer _) => some false
      | _ => none
    | .ptr a i, .ptr b j => match T.und t with
      | some (.pointer e) => match T.size e with
        | some (_ + 1) => bif Nat.beq a b then some (Nat.beq i j) else
          match A.objs.get a, A.objs.get b with
          | some (.row c _ _ _ _ true), some (.row c' _ _ _ _ true) => bif Nat.beq c c' then none else some false
          | _, _ => none
        | _ => none
      | _ => none
    | .nili, .nili => match T.und t with
      | some (.interface _) => some true
      | _ => none
    | .nili, .ifc _ _ | .ifc _ _, .nili => match T.und t with
      | some (.interface _) => some false
      | _ => none
    | .ifc u v, .ifc u' v' => match T.und t with
      | some (.interface _) => bif Nat.beq u u' then
          match T.ty.get u with
          | some i => bif i.comparable then equalIn T A d u v v' else none
          | none => none
        else some false
      | _ => none
    | .agg xs, .agg ys => match T.und t with
      | some (.struct ⟨fields⟩) => match T.plain.get t with
        | some _ => allM (fun (f : Field) => if f.name = "_" then none else
            match part T f.type xs f.offset, part T f.type ys f.offset with
            | some u, some v => equalIn T A d f.type u v
            | _, _ => none) fields
        | none => none
      | _ => none
    | .nils, .nils => match T.und t with
      | some (.slice _) => some true
      | _ => none
    | .nils, .slc _ _ _ _ _ _ | .slc _ _ _ _ _ _, .nils => match T.und t with
      | some (.slice _) => some false
      | _ => none
    | .nilm, .nilm => match T.und t with
      | some (.map _ _) => some true
      | _ => none
    | .nilm, .map _ | .map _, .nilm => match T.und t with
      | some (.map _ _) => some false
      | _ => none
    | .nilf, .nilf => match T.und t with
      | some (.func _ _ _) => some true
      | _ => none
    | .nilf, .fn _ _ _ | .fn _ _ _, .nilf => match T.und t with
      | some (.func _ _ _) => some false
      | _ => none
    | _, _ => none

def isConst : Operand → Bool
  | .const _ => true
  | _ => false

def binOp (T : Tabs) (A : AHeap) (op : BinOp) (t : TypeId) (cx cy : Bool) (x y : AV) : Option AV :=
  match x, y with
  | .int k a, .int k' b =>
    match op with
    | .shl => shiftI .shl k a b
    | .shr => shiftI .shr k a b
    | op => bif kindEq k k' then intBin op k a b else none
  | .str a, .str b => strBin op a b
  | .nili, .nili => bif cx || cy then (match op with
      | .eql => match equalIn T A 10000 t x y with | some r => some (.bool r) | none => none
      | .neq => match equalIn T A 10000 t x y with | some r => some (.bool (!r)) | none => none
      | _ => none) else none
  | .agg _, .agg _ => match T.plain.get t with
    | some _ => (match op with
      | .eql => match equalIn T A 10000 t x y with | some r => some (.bool r) | none => none
      | .neq => match equalIn T A 10000 t x y with | some r => some (.bool (!r)) | none => none
      | _ => none)
    | none => none
  | x, y => match op with
    | .eql => match equalIn T A 10000 t x y with | some r => some (.bool r) | none => none
    | .neq => match equalIn T A 10000 t x y with | some r => some (.bool (!r)) | none => none
    | _ => none

def unOp (op : UnOp) (x : AV) : Option AV :=
  match op, x with
  | .neg, .int k n => some (wrapI k (0 - n))
  | .not, .bool b => some (.bool (!b))
  | .xor, .int k n => intBin .xor k (if k.signed then -1 else k.max) n
  | _, _ => none

def convert (T : Tabs) (A : AHeap) (src dst : TypeId) (x : AV) : Option (AV × AHeap) :=
  match T.und src, T.und dst, x with
  | some _, some (.int k), .int _ n => some (wrapI k n, A)
  | some _, some .string, .str s => some (.str s, A)
  | _, _, _ => none

def bound (x : AV) (y : Nat) : Option Nat :=
  match x with
  | .int _ (.ofNat n) => bif Nat.ble n y then some n else none
  | _ => none
def boundOr (x : Option AV) (y d : Nat) : Option Nat :=
  match x with
  | some v => bound v y
  | none => some d

def sliceIn (T : Tabs) (t : TypeId) (x : AV) (lo hi mx : Option AV) : Option AV :=
  match x with
  | .str s => match T.und t, mx with
    | some .string, none => match boundOr hi s.length s.length with
      | some h => match boundOr lo h 0 with
        | some l => some (.str (takeB (h - l) (dropN l s)))
        | none => none
      | none => none
    | _, _ => none
  | .slc b o len cap ex es => match T.und t with
    | some (.slice elem) => match T.size elem, boundOr mx cap cap with
      | some n, some m => match boundOr hi m len with
        | some h => match boundOr lo h 0 with
          | some l => bif Nat.ble h m && (ex || mx.isSome || Nat.beq n es) then some (.slc b (o + l * n) (h - l) (m - l) (ex || mx.isSome) es) else none
          | none => none
        | none => none
      | _, _ => none
    | _ => none
  | .nils => match T.und t with
    | some (.slice elem) => match boundOr mx 0 0 with
      | some m => match boundOr hi m 0 with
        | some h => match boundOr lo h 0 with
          | some _ => match T.size elem with
            | some _ => some .nils
            | none => none
          | none => none
        | none => none
      | none => none
    | _ => none
  | .ptr b o => match T.und t with
    | some (.array n elem) => match T.size elem, boundOr mx n n with
      | some sz, some m => match boundOr hi m n with
        | some h => match boundOr lo h 0 with
          | some l => bif Nat.ble h m then some (.slc b (o + l * sz) (h - l) (m - l) true 0) else none
          | none => none
        | none => none
      | _, _ => none
    | _ => none
  | _ => none

/-- Where a greatest bound stands, a high one does. -/
def maxOk (hi mx : Option AV) : Bool :=
  match mx with
  | none => true
  | some _ => hi.isSome
def slice (T : Tabs) (t : TypeId) (x : AV) (lo hi mx : Option AV) : Option AV := sel (maxOk hi mx) (sliceIn T t x lo hi mx) none

def indexAddr (T : Tabs) (t : TypeId) (x i : AV) : Option AV :=
  match i with
  | .int _ (.ofNat n) => match x with
    | .slc b o len _ _ _ => match T.und t with
      | some (.slice elem) => match T.size elem with
        | some sz => bif Nat.blt n len then some (.ptr b (o + n * sz)) else none
        | none => none
      | _ => none
    | .ptr b o => match T.und t with
      | some (.array len elem) => match T.size elem with
        | some sz => bif Nat.blt n len then some (.ptr b (o + n * sz)) else none
        | none => none
      | _ => none
    | _ => none
  | _ => none

def index (T : Tabs) (t : TypeId) (x i : AV) : Option AV :=
  match i with
  | .int _ (.ofNat n) => match x with
    | .str s => match T.und t with
      | some .string => match nth s n with
        | some c => some (.int .u8 c)
        | none => none
      | _ => none
    | .agg cs => match T.und t with
      | some (.array len elem) => match T.size elem with
        | some sz => bif Nat.blt n len then part T elem cs (n * sz) else none
        | none => none
      | _ => none
    | _ => none
  | _ => none

def fieldAddr (T : Tabs) (s : TypeId) (x : AV) (field : Nat) : Option AV :=
  match x with
  | .ptr b o => match T.und s with
    | some (.struct ⟨fields⟩) => match nth fields field with
      | some f => match T.size f.type with
        | some (_ + 1) => some (.ptr b (o + f.offset))
        | _ => none
      | none => none
    | _ => none
  | _ => none

def fieldOf (T : Tabs) (t : TypeId) (x : AV) (field : Nat) : Option AV :=
  match x with
  | .agg cs => match T.und t with
    | some (.struct ⟨fields⟩) => match nth fields field with
      | some f => part T f.type cs f.offset
      | none => none
    | _ => none
  | _ => none

/-- May it be a key? (Not one that holds a pointer or an interface.) -/
def keyOk (T : Tabs) : Nat → TypeId → AV → Bool
  | 0, _, _ => false
  | d + 1, t, x =>
    match x with
    | .int _ _ => match T.und t with
      | some (.int _) => true
      | _ => false
    | .str _ => match T.und t with
      | some .string => true
      | _ => false
    | .bool _ => match T.und t with
      | some .bool => true
      | _ => false
    | .agg cs => match T.und t with
      | some (.struct ⟨fields⟩) => (match T.plain.get t with | some _ => true | none => false) &&
        fields.all fun f => match part T f.type cs f.offset with
          | some v => (if f.name = "_" then false else true) && keyOk T d f.type v
          | none => false
      | _ => false
    | _ => false

def findKey (T : Tabs) (A : AHeap) (kt : TypeId) (k : AV) : List (AV × AV × Nat) → Nat → Option (Option (Nat × AV × AV × Nat))
  | [], _ => some none
  | (x, v, born) :: r, i =>
    match equalIn T A 10000 kt k x with
    | some true => some (some (i, x, v, born))
    | some false => findKey T A kt k r (i + 1)
    | none => none

def lookup (T : Tabs) (A : AHeap) (t : TypeId) (x k : AV) (ok : Bool) : Option AV :=
  match T.und t with
  | some (.map kt et) =>
    bif keyOk T 50 kt k then
      let es := match x with
        | .nilm => some []
        | .map r => match A.objs.get r with
          | some (.map es _) => some es
          | _ => none
        | _ => none
      match es with
      | some es => match findKey T A kt k es 0 with
        | some (some (_, _, v, _)) => some (bif ok then .tup [v, .bool true] else v)
        | some none => match T.zero et with
          | some z => some (bif ok then .tup [z, .bool false] else z)
          | none => none
        | none => none
      | none => none
    else none
  | _ => none

def setEntry : List (AV × AV × Nat) → Nat → AV → AV → List (AV × AV × Nat)
  | [], _, _, _ => []
  | (_, _, b) :: r, 0, k, v => (k, v, b) :: r
  | e :: r, n + 1, k, v => e :: setEntry r n k v

def mapUpdate (T : Tabs) (A : AHeap) (t : TypeId) (m k v : AV) : Option AHeap :=
  match T.und t, m with
  | some (.map kt _), .map r => match A.objs.get r with
    | some (.map es clock) => bif keyOk T 50 kt k then
        match findKey T A kt k es 0 with
        | some (some (i, x, _, _)) => bif AV.beq k x then some (A.setObj r (.map (setEntry es i k v) clock)) else none
        | some none => some (A.setObj r (.map (es ++ [(k, v, clock)]) (clock + 1)))
        | none => none
      else none
    | _ => none
  | _, _ => none

def mapEntry (T : Tabs) (A : AHeap) (t : TypeId) (m k : AV) : Option (AV × AHeap) :=
  match T.und t, m with
  | some (.map kt et), .map r => match A.objs.get r with
    | some (.map es clock) => bif keyOk T 50 kt k then
        match findKey T A kt k es 0 with
        | some (some (i, x, v, born)) => bif AV.beq k x then some (.tup [v, .int .i64 born], A.setObj r (.map (setEntry es i k v) clock)) else none
        | some none => match T.zero et with
          | some z => some (.tup [z, .int .i64 clock], A.setObj r (.map (es ++ [(k, z, clock)]) (clock + 1)))
          | none => none
        | none => none
      else none
    | _ => none
  | _, _ => none

def putBorn (s : Nat) (v : AV) : List (AV × AV × Nat) → Option (List (AV × AV × Nat))
  | [] => none
  | (k, x, b) :: r => bif Nat.beq b s then some ((k, v, b) :: r) else match putBorn s v r with
    | some l => some ((k, x, b) :: l)
    | none => none

def entryStore (A : AHeap) (m s v : AV) : Option AHeap :=
  match m, s with
  | .map r, .int _ (.ofNat n) => match A.objs.get r with
    | some (.map es clock) => match putBorn n v es with
      | some es => some (A.setObj r (.map es clock))
      | none => none
    | _ => none
  | _, _ => none

/-- The rune at a place of a text, and its width. -/
def decodeAt (s : List Nat) : Nat × Nat :=
  match s with
  | [] => (0, 0)
  | b :: _ => bif Nat.blt b 128 then (b, 1) else (0, 0)

def next (A : AHeap) (it : AV) : Option (AV × AHeap) :=
  match it with
  | .ptr r 0 => match A.objs.get r with
    | some (.iter s pos) => match dropN pos s with
      | [] => some (.tup [.bool false], A)
      | b :: _ => bif Nat.blt b 128 then
          some (.tup [.bool true, .int .i64 pos, .int .i32 b], A.setObj r (.iter s (pos + 1)))
        else none
    | _ => none
  | _ => none

def typeAssert (T : Tabs) (x : AV) (asserted : TypeId) (ok : Bool) : Option AV :=
  match T.und asserted, x with
  | some (.interface _), _ => none
  | some _, .ifc t v => bif Nat.beq t asserted then some (bif ok then .tup [v, .bool true] else v) else
    bif ok then match T.zero asserted with
      | some z => some (.tup [z, .bool false])
      | none => none
    else none
  | some _, .nili => bif ok then match T.zero asserted with
      | some z => some (.tup [z, .bool false])
      | none => none
    else none
  | _, _ => none

/-! Built-in functions -/

def len (T : Tabs) (A : AHeap) (t : TypeId) (x : AV) : Option AV :=
  match x with
  | .str s => match T.und t with
    | some .string => some (.int .i64 s.length)
    | _ => none
  | .nils => match T.und t with
    | some (.slice _) => some (.int .i64 0)
    | _ => none
  | .slc _ _ n _ _ _ => match T.und t with
    | some (.slice _) => some (.int .i64 n)
    | _ => none
  | .nilm => match T.und t with
    | some (.map _ _) => some (.int .i64 0)
    | _ => none
  | .map r => match T.und t, A.objs.get r with
    | some (.map _ _), some (.map es _) => some (.int .i64 es.length)
    | _, _ => none
  | .agg _ => match T.und t with
    | some (.array n _) => some (.int .i64 n)
    | _ => none
  | _ => none

def maxes : List AV → AV → Option AV
  | [], x => some x
  | .int _ y :: r, .int k x => maxes r (.int k (if y > x then y else x))
  | _, _ => none
def mins : List AV → AV → Option AV
  | [], x => some x
  | .int _ y :: r, .int k x => mins r (.int k (if y < x then y else x))
  | _, _ => none

/-- What is appended: how many elements, and their cells. -/
def appended (A : AHeap) (size : Nat) (x : AV) : Option (Nat × List AV) :=
  match x with
  | .nils => some (0, [])
  | .slc b o n _ _ _ => match A.cells b o (n * size) with
    | some l => some (n, l)
    | none => none
  | .str s => bif Nat.beq size 1 then some (s.length, s.map fun (n : Nat) => AV.int .u8 n) else none
  | _ => none

def rowBytes : Nat := 140737488355328
/-- Is the zero value of a type known, and of so many cells? -/
def zeroFits (T : Tabs) (elem : TypeId) (n : Nat) : Bool :=
  match T.zero elem with
  | some z => Nat.beq z.cells.length n
  | none => false

def append (T : Tabs) (A : AHeap) (st : TypeId) (xt : TypeId) (s x : AV) : Option (AV × AHeap) :=
  match T.und st, T.und xt with
  | some (.slice elem), some xd => match (match xd with | .int _ => true | _ => false), T.ty.get elem with
    | false, some i => match i.size, appended A i.size x with
      | size + 1, some (n, new) =>
        bif Nat.beq n 0 then (match s with
          | .nils => some (.nils, A)
          | .slc b o len cap ex es => some (.slc b o len cap ex es, A)
          | _ => none) else
        match s with
        | .nils => bif Nat.ble (n * i.bytes) rowBytes && Nat.ble n 4611686018427387904 then
            bif zeroFits T elem (size + 1) && allOne new then match A.newRow elem new with
            | (nb, A') => some (.slc nb 0 n n false (size + 1), A')
            else none
          else none
        | .slc b o len cap ex es =>
          bif Nat.ble ((len + n) * i.bytes) rowBytes && Nat.ble (len + n) 4611686018427387904 && zeroFits T elem (size + 1) then
            bif ex then
              bif Nat.ble (len + n) cap then
                match A.store b (o + len * (size + 1)) new with
                | some A' => some (.slc b o (len + n) cap true es, A')
                | none => none
              else match A.cells b o (len * (size + 1)) with
                | some old => match A.newRow elem (old ++ new) with
                  | (nb, A') => some (.slc nb 0 (len + n) (len + n) false (size + 1), A')
                | none => none
            else match A.objs.get b with
              | some (.row c lo hi cells el true) =>
                let p := o + len * (size + 1)
                bif Nat.ble lo o && Nat.ble p hi && Nat.beq el elem && Nat.beq es (size + 1) && allOne new then
                  match A.cls.get c with
                  | some ms =>
                    some (.slc A.next o (len + n) (len + n) false (size + 1),
                      mkHeap ((prune A.objs A.next p ms).put A.next (some (.row c o (p + n * (size + 1)) (setCells cells p new) elem true))) (Nat.succ A.next)
                        (A.cls.put c (some (A.next :: stay A.objs A.next p ms))))
                  | none => none
                else none
              | _ => none
          else none
        | _ => none
      | _, _ => none
    | _, _ => none
  | _, _ => none

def copy (T : Tabs) (A : AHeap) (dt : TypeId) (d s : AV) : Option (AV × AHeap) :=
  match T.und dt with
  | some (.slice elem) => match T.size elem, d with
    | some size, .slc b o dl _ _ _ =>
      let n := match s with
        | .nils => some 0
        | .slc _ _ m _ _ _ => some m
        | .str t => some t.length
        | _ => none
      match n with
      | some n =>
        let k := bif Nat.ble n dl then n else dl
        let cs := match s with
          | .nils => some []
          | .slc c q _ _ _ _ => A.cells c q (k * size)
          | .str t => some ((takeB k t).map fun (n : Nat) => AV.int .u8 n)
          | _ => none
        match cs with
        | some cs => bif Nat.beq k 0 then some (.int .i64 0, A) else match A.store b o cs with
          | some A' => some (.int .i64 k, A')
          | none => none
        | none => none
      | none => none
    | some _, .nils => match s with
      | .nils | .slc _ _ _ _ _ _ | .str _ => some (.int .i64 0, A)
      | _ => none
    | _, _ => none
  | _ => none

def builtinOp (T : Tabs) (A : AHeap) (b : Builtin) (ts : List TypeId) (args : List AV) : Option (ARes × AHeap) :=
  match b, ts, args with
  | .len, [t], [x] => match len T A t x with
    | some v => some (.val v, A)
    | none => none
  | .append, [st, xt], [s, x] => match append T A st xt s x with
    | some (v, A') => some (.val v, A')
    | none => none
  | .copy, [dt, _], [d, s] => match copy T A dt d s with
    | some (v, A') => some (.val v, A')
    | none => none
  | .max, _, x :: r => match maxes r x with
    | some v => some (.val v, A)
    | none => none
  | .min, _, x :: r => match mins r x with
    | some v => some (.val v, A)
    | none => none
  | .recover, [], [] => some (.recover, A)
  | _, _, _ => none

/-! Functions without a body -/

def findByte (c : Nat) : List Nat → Nat → Option Nat
  | [], _ => none
  | b :: y, i => bif Nat.beq b c then some i else findByte c y (i + 1)
def foundInt : Option Nat → AV
  | some i => .int .i64 i
  | none => .int .i64 (-1)

def extern (T : Tabs) (f : FuncId) (args : List AV) : Option AV :=
  match T.ext.get f with
  | some 0 => match args with
    | [.str s, .int .u8 (.ofNat c)] => bif Nat.blt c 256 then some (foundInt (findByte c s 0)) else none
    | _ => none
  | some 1 => match args with
    | [x] => some x
    | _ => none
  | _ => none

def callFn (T : Tabs) (A : AHeap) (f : FuncId) (args : List AV) : Option (ARes × AHeap) :=
  match T.fns.get f with
  | some fn => match fn.body with
    | some _ => some (.enter f args, A)
    | none => match extern T f args with
      | some v => some (.val v, A)
      | none => none
  | none => none

def invoke (T : Tabs) (A : AHeap) (f : Fn) (captured args : List AV) : Option (ARes × AHeap) :=
  match f with
  | .func g => callFn T A g (args ++ captured)
  | .yield l => some (.round l args, A)
  | _ => none

def evals (ρ : Operand → Option AV) (l : List Operand) : Option (List AV) :=
  List.rec (motive := fun _ => Option (List AV)) (some []) (fun x _ ih => consOpt (ρ x) ih) l
def AV.known : AV → Bool
  | .any => false
  | _ => true
def evalParts (ρ : Operand → Option AV) : List (Nat × Operand) → Option (List (Nat × AV))
  | [] => some []
  | (i, x) :: r => match ρ x with
    | some v => match evalParts ρ r with
      | some l => sel v.known (some ((i, v) :: l)) none
      | none => none
    | none => none
def evalOpt (ρ : Operand → Option AV) : Option Operand → Option (Option AV)
  | none => some none
  | some x => match ρ x with
    | some v => some (some v)
    | none => none

def pure1 (A : AHeap) : Option AV → Option (ARes × AHeap)
  | some v => some (.val v, A)
  | none => none
def heap1 : Option (AV × AHeap) → Option (ARes × AHeap)
  | some (v, A) => some (.val v, A)
  | none => none
def skip1 : Option AHeap → Option (ARes × AHeap)
  | some A => some (.skip, A)
  | none => none

/-! The operations, each by itself (small texts: they are worked out often) -/

def exPick (ρ : Operand → Option AV) (A : AHeap) (c a b : Operand) : Option (ARes × AHeap) :=
  match ρ c with
  | some (.bool true) => pure1 A (ρ a)
  | some (.bool false) => pure1 A (ρ b)
  | _ => none
def exRow (elem : TypeId) (A : AHeap) (cs : List AV) : Option (ARes × AHeap) :=
  bif allOne cs then match A.newRow elem cs with
    | (b, A') => some (.val (.ptr b 0), A')
  else none
def exAlloc (T : Tabs) (A : AHeap) (elem : TypeId) : Option (ARes × AHeap) :=
  match T.zero elem with
  | some z => exRow elem A z.cells
  | none => none
def exBox (ρ : Operand → Option AV) (A : AHeap) (elem : TypeId) (x : Operand) : Option (ARes × AHeap) :=
  match ρ x with
  | some v => exRow elem A v.cells
  | none => none
def exBuild (T : Tabs) (ρ : Operand → Option AV) (A : AHeap) (t : TypeId) (parts : List (Nat × Operand)) : Option (ARes × AHeap) :=
  match evalParts ρ parts with
  | some ps => pure1 A (build T t ps)
  | none => none
def exBuildSlice (T : Tabs) (ρ : Operand → Option AV) (A : AHeap) (t : TypeId) (n : Nat) (parts : List (Nat × Operand)) : Option (ARes × AHeap) :=
  match evalParts ρ parts with
  | some ps => heap1 (buildSlice T A t n ps)
  | none => none
def exLoad (T : Tabs) (A : AHeap) (t : TypeId) (a : Option AV) : Option (ARes × AHeap) :=
  match a with
  | some (.ptr b o) => pure1 A (loadVar T A t b o)
  | _ => none
def exStore (T : Tabs) (A : AHeap) (t : TypeId) (a x : Option AV) : Option (ARes × AHeap) :=
  match a with
  | some (.ptr b o) => match x with
    | some v => skip1 (storeVar T A t b o v)
    | none => none
  | _ => none
def exNilCheck (A : AHeap) (x : Option AV) : Option (ARes × AHeap) :=
  match x with
  | some (.ptr b o) => some (.val (.ptr b o), A)
  | some (.fn (.func f) a c) => some (.val (.fn (.func f) a c), A)
  | some (.fn (.yield l) a c) => some (.val (.fn (.yield l) a c), A)
  | _ => none
def exBin (T : Tabs) (A : AHeap) (op : BinOp) (t : TypeId) (cx cy : Bool) (x y : Option AV) : Option (ARes × AHeap) :=
  match x with
  | some u => match y with
    | some v => pure1 A (binOp T A op t cx cy u v)
    | none => none
  | none => none
def exUn (A : AHeap) (op : UnOp) (x : Option AV) : Option (ARes × AHeap) :=
  match x with
  | some u => pure1 A (unOp op u)
  | none => none
def exConvert (T : Tabs) (A : AHeap) (s d : TypeId) (x : Option AV) : Option (ARes × AHeap) :=
  match x with
  | some u => heap1 (convert T A s d u)
  | none => none
def exMakeInterface (T : Tabs) (A : AHeap) (t : TypeId) (x : Option AV) : Option (ARes × AHeap) :=
  match T.und t with
  | some (.interface _) => none
  | some _ => match x with
    | some v => some (.val (.ifc t v), A)
    | none => none
  | none => none
def exMakeFunc (ρ : Operand → Option AV) (A : AHeap) (f : Fn) (first captured : List Operand) : Option (ARes × AHeap) :=
  match f with
  | .func g => match evals ρ first with
    | some a => match evals ρ captured with
      | some b => some (.val (.fn (.func g) a b), A)
      | none => none
    | none => none
  | _ => none
def newMap (A : AHeap) : Option (ARes × AHeap) :=
  match A.new (.map [] 0) with
  | (b, A') => some (.val (.map b), A')
def exMakeMap (T : Tabs) (A : AHeap) (t : TypeId) (x : Option AV) : Option (ARes × AHeap) :=
  match x with
  | some (.int _ _) => match T.und t with
    | some (.map _ _) => newMap A
    | _ => none
  | _ => none
def makeSlice (A : AHeap) (elem : TypeId) (i : TypeInfo) (z : AV) (n m : Nat) : Option (ARes × AHeap) :=
  bif Nat.ble n m && Nat.ble (i.bytes * m) rowBytes && Nat.ble m 4611686018427387904 && Nat.beq z.cells.length i.size && allOne z.cells then
    match A.newRow elem (repeated m z.cells) with
    | (b, A') => some (.val (.slc b 0 n m true 0), A')
  else none
def exMakeSlice (T : Tabs) (A : AHeap) (t : TypeId) (l c : Option AV) : Option (ARes × AHeap) :=
  match T.und t with
  | some (.slice elem) => match l with
    | some (.int .i64 (.ofNat n)) => match c with
      | some (.int .i64 (.ofNat m)) => match T.ty.get elem with
        | some i => match T.zero elem with
          | some z => makeSlice A elem i z n m
          | none => none
        | none => none
      | _ => none
    | _ => none
  | _ => none
def exSlice (T : Tabs) (ρ : Operand → Option AV) (A : AHeap) (t : TypeId) (x : Operand) (lo hi mx : Option Operand) : Option (ARes × AHeap) :=
  match ρ x with
  | some v => match evalOpt ρ lo with
    | some l => match evalOpt ρ hi with
      | some h => match evalOpt ρ mx with
        | some m => pure1 A (slice T t v l h m)
        | none => none
      | none => none
    | none => none
  | none => none
def exFieldAddr (T : Tabs) (A : AHeap) (s : TypeId) (x : Option AV) (f : Nat) : Option (ARes × AHeap) :=
  match x with
  | some v => pure1 A (fieldAddr T s v f)
  | none => none
def exField (T : Tabs) (A : AHeap) (s : TypeId) (x : Option AV) (f : Nat) : Option (ARes × AHeap) :=
  match x with
  | some v => pure1 A (fieldOf T s v f)
  | none => none
def exIndexAddr (T : Tabs) (A : AHeap) (t : TypeId) (x i : Option AV) : Option (ARes × AHeap) :=
  match x with
  | some v => match i with
    | some j => pure1 A (indexAddr T t v j)
    | none => none
  | none => none
def exIndex (T : Tabs) (A : AHeap) (t : TypeId) (x i : Option AV) : Option (ARes × AHeap) :=
  match x with
  | some v => match i with
    | some j => pure1 A (index T t v j)
    | none => none
  | none => none
def exLookup (T : Tabs) (A : AHeap) (t : TypeId) (x k : Option AV) (ok : Bool) : Option (ARes × AHeap) :=
  match x with
  | some m => match k with
    | some v => pure1 A (lookup T A t m v ok)
    | none => none
  | none => none
def exMapUpdate (T : Tabs) (A : AHeap) (t : TypeId) (m k x : Option AV) : Option (ARes × AHeap) :=
  match m with
  | some m => match k with
    | some k => match x with
      | some v => skip1 (mapUpdate T A t m k v)
      | none => none
    | none => none
  | none => none
def exMapEntry (T : Tabs) (A : AHeap) (t : TypeId) (m k : Option AV) : Option (ARes × AHeap) :=
  match m with
  | some m => match k with
    | some k => heap1 (mapEntry T A t m k)
    | none => none
  | none => none
def exEntryStore (A : AHeap) (m s x : Option AV) : Option (ARes × AHeap) :=
  match m with
  | some m => match s with
    | some s => match x with
      | some v => skip1 (entryStore A m s v)
      | none => none
    | none => none
  | none => none
def exRange (T : Tabs) (A : AHeap) (t : TypeId) (x : Option AV) : Option (ARes × AHeap) :=
  match T.und t with
  | some .string => match x with
    | some (.str s) => match A.new (.iter s 0) with
      | (b, A') => some (.val (.ptr b 0), A')
    | _ => none
  | _ => none
def exNext (A : AHeap) (it : Option AV) (str : Bool) : Option (ARes × AHeap) :=
  match str with
  | true => match it with
    | some v => heap1 (next A v)
    | none => none
  | false => none
def exTypeAssert (T : Tabs) (A : AHeap) (x : Option AV) (asserted : TypeId) (ok : Bool) : Option (ARes × AHeap) :=
  match x with
  | some v => pure1 A (typeAssert T v asserted ok)
  | none => none
def exExtract (A : AHeap) (x : Option AV) (i : Nat) : Option (ARes × AHeap) :=
  match x with
  | some (.tup vs) => pure1 A (nth vs i)
  | _ => none
def exCallValue (T : Tabs) (A : AHeap) (f : Option AV) (args : Option (List AV)) : Option (ARes × AHeap) :=
  match f with
  | some (.fn g first captured) => match args with
    | some vs => invoke T A g captured (first ++ vs)
    | none => none
  | _ => none
def exBuiltin (T : Tabs) (A : AHeap) (b : Builtin) (ts : List TypeId) (args : Option (List AV)) : Option (ARes × AHeap) :=
  match args with
  | some vs => builtinOp T A b ts vs
  | none => none
def exCall (T : Tabs) (ρ : Operand → Option AV) (A : AHeap) (c : Call) : Option (ARes × AHeap) :=
  match c with
  | ⟨callee, ⟨args⟩, ⟨ts⟩⟩ => match callee with
    | .builtin b => exBuiltin T A b ts (evals ρ args)
    | .value f => exCallValue T A (ρ f) (evals ρ args)
    | .invoke _ _ => none
def exDeferOf (A : AHeap) (f : Option AV) (args : Option (List AV)) : Option (ARes × AHeap) :=
  match f with
  | some (.fn g first captured) => match args with
    | some vs => some (.defer ⟨g, captured, first ++ vs⟩, A)
    | none => none
  | _ => none
def exDefer (ρ : Operand → Option AV) (A : AHeap) (c : Call) : Option (ARes × AHeap) :=
  match c with
  | ⟨callee, ⟨args⟩, _⟩ => match callee with
    | .value f => exDeferOf A (ρ f) (evals ρ args)
    | _ => none
def exPanic (A : AHeap) (x : Option AV) : Option (ARes × AHeap) :=
  match x with
  | some (.ifc t v) => some (.panic (.ifc t v), A)
  | _ => none

/-- What an operation does, without its surroundings. -/
structure Act where
  go : (Operand → Option AV) → AHeap → Option (ARes × AHeap)

def actOf (T : Tabs) (op : Op) : Act :=
  match op with
  | .move x => ⟨fun ρ A => pure1 A (ρ x)⟩
  | .assign x => ⟨fun ρ A => pure1 A (ρ x)⟩
  | .pick c a b => ⟨fun ρ A => exPick ρ A c a b⟩
  | .alloc elem => ⟨fun _ A => exAlloc T A elem⟩
  | .box elem x => ⟨fun ρ A => exBox ρ A elem x⟩
  | .build t parts => ⟨fun ρ A => exBuild T ρ A t parts.toList⟩
  | .buildSlice t n parts => ⟨fun ρ A => exBuildSlice T ρ A t n parts.toList⟩
  | .load t a => ⟨fun ρ A => exLoad T A t (ρ a)⟩
  | .store t a x => ⟨fun ρ A => exStore T A t (ρ a) (ρ x)⟩
  | .nilCheck x => ⟨fun ρ A => exNilCheck A (ρ x)⟩
  | .binOp op t x y _ => ⟨fun ρ A => exBin T A op t (isConst x) (isConst y) (ρ x) (ρ y)⟩
  | .unOp op _ x => ⟨fun ρ A => exUn A op (ρ x)⟩
  | .convert s d x => ⟨fun ρ A => exConvert T A s d (ρ x)⟩
  | .makeInterface t x => ⟨fun ρ A => exMakeInterface T A t (ρ x)⟩
  | .makeFunc f first captured => ⟨fun ρ A => exMakeFunc ρ A f first.toList captured.toList⟩
  | .makeMap _ none => ⟨fun _ A => newMap A⟩
  | .makeMap t (some x) => ⟨fun ρ A => exMakeMap T A t (ρ x)⟩
  | .makeSlice t l c => ⟨fun ρ A => exMakeSlice T A t (ρ l) (ρ c)⟩
  | .slice t x lo hi mx => ⟨fun ρ A => exSlice T ρ A t x lo hi mx⟩
  | .fieldAddr s x f => ⟨fun ρ A => exFieldAddr T A s (ρ x) f⟩
  | .field t x f => ⟨fun ρ A => exField T A t (ρ x) f⟩
  | .indexAddr t x i => ⟨fun ρ A => exIndexAddr T A t (ρ x) (ρ i)⟩
  | .index t x i => ⟨fun ρ A => exIndex T A t (ρ x) (ρ i)⟩
  | .lookup t x k ok => ⟨fun ρ A => exLookup T A t (ρ x) (ρ k) ok⟩
  | .mapUpdate t m k x => ⟨fun ρ A => exMapUpdate T A t (ρ m) (ρ k) (ρ x)⟩
  | .insert t m k x => ⟨fun ρ A => exMapUpdate T A t (ρ m) (ρ k) (ρ x)⟩
  | .mapEntry t m k => ⟨fun ρ A => exMapEntry T A t (ρ m) (ρ k)⟩
  | .entryStore _ m s x => ⟨fun ρ A => exEntryStore A (ρ m) (ρ s) (ρ x)⟩
  | .range t x => ⟨fun ρ A => exRange T A t (ρ x)⟩
  | .next it str => ⟨fun ρ A => exNext A (ρ it) str⟩
  | .typeAssert x _ asserted ok => ⟨fun ρ A => exTypeAssert T A (ρ x) asserted ok⟩
  | .extract t i => ⟨fun ρ A => exExtract A (ρ t) i⟩
  | .call c => ⟨fun ρ A => exCall T ρ A c⟩
  | .defer c => ⟨fun ρ A => exDefer ρ A c⟩
  | .panic x => ⟨fun ρ A => exPanic A (ρ x)⟩
  | _ => ⟨fun _ _ => none⟩

/-- One operation. -/
def exec (T : Tabs) (ρ : Operand → Option AV) (A : AHeap) (op : Op) : Option (ARes × AHeap) := (actOf T op).go ρ A

/-! Frames -/

structure APanic where
  v : AV
  recovered : Bool

inductive AMode where
  | run
  | returning
  | panicking (chain : List APanic)

/-- What a frame has yet to do. -/
inductive AItem where
  | code (c : Code)
  | inRegion (ops : Array Oper) (rest : List Oper) (prev : List (Option Tmp)) (vals : List AV)
  | inBlock (id : Nat)
  | inLoop (body : Code)
  | inScope (body : Code)
  | inDraw (ops : Array Oper) (stage : Nat) (vals : Tree AV)
  | inRangeFunc (l : Nat)
  | endRangeFunc (l : Nat)
  | beginRound

/-- What stays of a frame: its function, how many slots, how it was called, the round that it is. -/
structure ABase where
  fn : FuncId
  nt : Nat
  /-- the slots that are kept behind a region -/
  keep : Tree Unit
  kind : CallKind
  roundOf : Option Nat

structure AFrame where
  base : ABase
  tmps : Tree AV
  todo : List AItem
  defers : List ADefer
  mode : AMode

def anyOr (x : Option AV) : AV := Option.rec (motive := fun _ => AV) .any (fun v => v) x
def getTmp (tmps : Tree AV) (t : Nat) : AV := anyOr (tmps.get t)

/-- Who wrote a slot last, of a region's operations so far (the last one first)? -/
def srcOf (t : Tmp) (prev : List (Option Tmp)) : Option Nat :=
  List.rec (motive := fun _ => Nat → Option Nat) (fun _ => none)
    (fun d _ ih i => sel (Option.rec (motive := fun _ => Bool) false (fun d => Nat.beq d t) d) (some i) (ih (Nat.succ i))) prev 0

def evalOp (T : Tabs) (tmps : Tree AV) (x : Operand) : Option AV :=
  Operand.rec (motive := fun _ => Option AV) (fun t => some (getTmp tmps t)) (fun v => toAV v) (fun g => sel (Nat.blt g T.glob) (some (.ptr g 0)) none) (fun f => some (.fn (.func f) [] [])) x

/-- An operand, as it stands within a region. -/
def tmpIn (vals : List AV) (tmps : Tree AV) (t : Tmp) (src : Option Nat) : Option AV :=
  Option.rec (motive := fun _ => Option AV) (some (getTmp tmps t)) (fun k => nth vals k) src
def evalIn (T : Tabs) (prev : List (Option Tmp)) (vals : List AV) (tmps : Tree AV) (x : Operand) : Option AV :=
  Operand.rec (motive := fun _ => Option AV) (fun t => tmpIn vals tmps t (srcOf t prev)) (fun v => toAV v) (fun g => sel (Nat.blt g T.glob) (some (.ptr g 0)) none) (fun f => some (.fn (.func f) [] [])) x

structure ASt where
  fr : AFrame
  cs : List AFrame
  heap : AHeap

inductive AStep where
  | cont (s : ASt)
  | done (v : AV) (A : AHeap)
  | died (chain : List APanic) (A : AHeap)
  | fail

/-! Regions that draw their order: the plan -/

/-- Does it act, or may what it does hang on what acts? Calls, stores, and the like: these are done in their order. -/
def acts : Op → Bool
  | .store .. | .mapUpdate .. | .insert .. | .mapEntry .. | .entryStore .. | .call _ | .defer _ | .panic _ | .next .. => true
  | _ => false
/-- Of what acts: is it one that may be done at any time? (A built-in that only reads.) -/
def actsOp (o : Op) : Bool :=
  match o with
  | .call { callee := .builtin b, .. } => match b with
    | .len | .max | .min => false
    | _ => true
  | o => acts o

def binding (e : Edge) : Bool :=
  match e.ground with
  | .textOnly _ | .gcOnly _ => false
  | _ => true

/-- Of each operation the ones that stand ahead of it, as bits. -/
def aheadOf (acc : List Nat) : List Edge → Nat
  | [] => 0
  | e :: r => bif binding e then (match nth acc e.on with
      | some m => (2 ^ e.on ||| m) ||| aheadOf acc r
      | none => aheadOf acc r) else aheadOf acc r
def masks : List Oper → List Nat → List Nat
  | [], acc => acc
  | o :: r, acc => masks r (acc ++ [aheadOf acc o.after.toList])

structure Plan where
  masks : List Nat
  acts : List Nat

def actsFrom : List Oper → Nat → List Nat
  | [], _ => []
  | o :: r, i => bif actsOp o.op then i :: actsFrom r (i + 1) else actsFrom r (i + 1)

def bit (m i : Nat) : Bool := Nat.beq (m / 2 ^ i % 2) 1

/-- The acts stand in a row. -/
def inRow (ms : List Nat) : List Nat → Bool
  | a :: b :: r => (match nth ms b with
      | some m => bit m a
      | none => false) && inRow ms (b :: r)
  | _ => true
/-- All edges lead back, but those that do not bind. -/
def edgesOk : List Oper → Nat → Bool
  | [], _ => true
  | o :: r, i => o.after.toList.all (fun e => !binding e || Nat.blt e.on i) && edgesOk r (i + 1)
def dstsOk (seen : List Nat) : List Oper → Bool
  | [] => true
  | o :: r => match o.dst with
    | some d => !(seen.any (Nat.beq d)) && dstsOk (d :: seen) r
    | none => dstsOk seen r
def tmpsOf : List Operand → List Nat
  | [] => []
  | .tmp t :: r => t :: tmpsOf r
  | _ :: r => tmpsOf r
def writerOf (t : Nat) : List Oper → Nat → Option Nat
  | [], _ => none
  | o :: r, i => match o.dst with
    | some d => bif Nat.beq d t then some i else writerOf t r (i + 1)
    | none => writerOf t r (i + 1)
def plan (ops : Array Oper) : Option Plan :=
  let l := ops.toList
  let ms := masks l []
  let as := actsFrom l 0
  bif inRow ms as && edgesOk l 0 && dstsOk [] l then some ⟨ms, as⟩ else none

/-- How many acts stand ahead of an operation. -/
def loStage (m : Nat) : List Nat → Nat
  | [] => 0
  | a :: r => bif bit m a then loStage m r + 1 else 0
/-- How many acts may be done ahead of an operation. -/
def hiStage (ms : List Nat) (i : Nat) : List Nat → Nat
  | [] => 0
  | a :: r => bif (match nth ms a with | some m => bit m i | none => true) then 0 else hiStage ms i r + 1

/-- Is an operation of a plain region wanted? (none: that can't be told.) -/
def wantedBy (want : Bool) (v : Option AV) : Option Bool :=
  match v with
  | some (.bool b) => some (boolEq b want)
  | some .any => none
  | none => none
  | _ => some false
def dstAt (ops : List Oper) (j : Nat) : Option Tmp :=
  match nth ops j with
  | some p => p.dst
  | none => none
/-- An operand, as an operation of a region sees it. -/
def drawEval (T : Tabs) (all : List Oper) (ms : List Nat) (i m : Nat) (old vals : Tree AV) (x : Operand) : Option AV :=
  match x with
  | .tmp t => match writerOf t all 0 with
    | some j => bif bit m j then vals.get j else match nth ms j with
      | some n => bif bit n i then some (getTmp old t) else none
      | none => none
    | none => some (getTmp old t)
  | x => evalOp T old x

/-- Is an operation wanted? (none: that can't be told.) -/
def wantedD (all : List Oper) (m : Nat) (vals : Tree AV) (o : Oper) : Option Bool :=
  match o.guard with
  | none => some true
  | some (j, want) => match dstAt all j with
    | some _ => bif bit m j then wantedBy want (vals.get j) else none
    | none => none

/-- Does it make memory? -/
def makes : Op → Bool
  | .alloc _ | .box .. | .buildSlice .. | .makeMap .. | .makeSlice .. | .range .. => true
  | _ => false

/-- What an operation makes: a row, and what is said of it (a pointer, or a slice of so many). -/
structure Made where
  elem : TypeId
  cells : List AV
  slice : Option (Nat × Nat)
def madeVal (b : Nat) (x : Option (Nat × Nat)) : AV :=
  match x with
  | none => .ptr b 0
  | some (n, m) => .slc b 0 n m true 0
def blockOf : AV → Option Nat
  | .ptr b _ => some b
  | .slc b _ _ _ _ _ => some b
  | _ => none
def madeSlice (T : Tabs) (t : TypeId) (n : Nat) (ps : Option (List (Nat × AV))) : Option Made :=
  match T.und t, ps with
  | some (.slice elem), some ps => match T.size elem, T.zero elem with
    | some m, some z => bif Nat.beq z.cells.length m && Nat.ble (n * m) 16777216 then
        match fill (fun i => some (i * m, m)) (repeated n z.cells) ps with
        | some cs => some ⟨elem, cs, some (n, n)⟩
        | none => none
      else none
    | _, _ => none
  | _, _ => none
def madeRow (T : Tabs) (t : TypeId) (l c : Option AV) : Option Made :=
  match T.und t, l, c with
  | some (.slice elem), some (.int .i64 (.ofNat n)), some (.int .i64 (.ofNat m)) => match T.ty.get elem, T.zero elem with
    | some i, some z => bif Nat.ble n m && Nat.ble (i.bytes * m) rowBytes && Nat.ble m 4611686018427387904 && Nat.beq z.cells.length i.size then some ⟨elem, repeated m z.cells, some (n, m)⟩ else none
    | _, _ => none
  | _, _, _ => none
def madeOf (T : Tabs) (ρ : Operand → Option AV) (op : Op) : Option Made :=
  match op with
  | .alloc elem => match T.zero elem with
    | some z => some ⟨elem, z.cells, none⟩
    | none => none
  | .buildSlice t n parts => madeSlice T t n (evalParts ρ parts.toList)
  | .makeSlice t l c => madeRow T t (ρ l) (ρ c)
  | _ => none

/-- Is what was made still as it was made? -/
def untouched (A : AHeap) (m : Option Made) (u : AV) : Bool :=
  match m, blockOf u with
  | some ⟨e, cs, sl⟩, some b => AV.beq u (madeVal b sl) && (match A.objs.get b with
    | some (.row _ lo hi cells e' true) => Nat.beq lo 0 && Nat.beq hi cs.length && Nat.beq e' e && (match cellsAt lo hi cells 0 hi with
      | some l => AV.beqL l cs
      | none => false)
    | _ => false)
  | _, _ => false

/-- One operation of a stage that makes something. -/
def makeOne (i : Nat) (vals : Tree AV) (A : AHeap) (m : Option Made) : Option (Tree AV × AHeap) :=
  match m with
  | some ⟨e, cs, sl⟩ => bif allOne cs then match A.newRow e cs with
    | (b, A') => some (vals.put i (some (madeVal b sl)), A')
    else none
  | none => none
/-- One operation of a stage that tells something. -/
def tellOne (i : Nat) (vals : Tree AV) (A : AHeap) (r : Option (ARes × AHeap)) : Option (Tree AV × AHeap) :=
  match r with
  | some (.val v, _) => some (vals.put i (some v), A)
  | _ => none
/-- All operations of a stage that do not act, in the text's order. -/
def stageOps (T : Tabs) (all : List Oper) (P : Plan) (s : Nat) (old : Tree AV) : List Oper → Nat → Tree AV → AHeap → Option (Tree AV × AHeap)
  | [], _, vals, A => some (vals, A)
  | o :: r, i, vals, A =>
    bif actsOp o.op then stageOps T all P s old r (i + 1) vals A else
    match nth P.masks i with
    | none => none
    | some m => bif Nat.beq (loStage m P.acts) s then
        match wantedD all m vals o with
        | none => none
        | some false => stageOps T all P s old r (i + 1) (vals.put i (some .undef)) A
        | some true => match (bif makes o.op then makeOne i vals A (madeOf T (drawEval T all P.masks i m old vals) o.op) else tellOne i vals A (exec T (drawEval T all P.masks i m old vals) A o.op)) with
          | some (vals, A) => stageOps T all P s old r (i + 1) vals A
          | none => none
      else stageOps T all P s old r (i + 1) vals A

/-- Does an operation still tell what it told? -/
def sameOne (vals : Tree AV) (i : Nat) (r : Option (ARes × AHeap)) : Bool :=
  match r, vals.get i with
  | some (.val v, _), some u => AV.beq v u
  | _, _ => false
/-- Is all that may be done at a stage as it was told? -/
def stageOk (T : Tabs) (all : List Oper) (P : Plan) (s : Nat) (old vals : Tree AV) (A : AHeap) : List Oper → Nat → Bool
  | [], _ => true
  | o :: r, i =>
    bif actsOp o.op then stageOk T all P s old vals A r (i + 1) else
    match nth P.masks i with
    | none => false
    | some m => bif Nat.ble (loStage m P.acts) s && Nat.ble s (hiStage P.masks i P.acts) then
        match wantedD all m vals o with
        | none => false
        | some false => (match vals.get i with | some u => AV.beq u .undef | none => false) && stageOk T all P s old vals A r (i + 1)
        | some true => (bif makes o.op then (match vals.get i with | some u => untouched A (madeOf T (drawEval T all P.masks i m old vals) o.op) u | none => false) else sameOne vals i (exec T (drawEval T all P.masks i m old vals) A o.op))
            && stageOk T all P s old vals A r (i + 1)
      else stageOk T all P s old vals A r (i + 1)

def putDsts (keep : Tree Unit) : List Oper → Nat → Tree AV → Tree AV → Tree AV
  | [], _, _, tmps => tmps
  | o :: r, i, vals, tmps => putDsts keep r (i + 1) vals (match o.dst with
      | some d => match keep.get d with
        | some _ => tmps.put d (match vals.get i with | some v => some v | none => some .any)
        | none => tmps
      | none => tmps)
def loseDsts : List Oper → Tree AV → Tree AV
  | [], tmps => tmps
  | o :: r, tmps => loseDsts r (match o.dst with
      | some d => tmps.put d (some .any)
      | none => tmps)
def dstsIn (n : Nat) : List Oper → Bool
  | [] => true
  | o :: r => (match o.dst with
      | some d => Nat.blt d n
      | none => true) && dstsIn n r

/-! Steps -/

def isBlock (id : Nat) : AItem → Bool
  | .inBlock id' => Nat.beq id' id
  | _ => false
def exitTo (id : Nat) (l : List AItem) : Option (List AItem) :=
  List.rec (motive := fun _ => Option (List AItem)) none (fun x k ih => sel (isBlock id x) (some k) ih) l
def gotoIn (l : Nat) : List AItem → Option (List AItem)
  | .inScope body :: k => match findLabel body l with
    | some rest => some (.code rest :: .inScope body :: k)
    | none => gotoIn l k
  | _ :: k => gotoIn l k
  | [] => none

def ofArgs (l : List AV) : Tree AV := Tree.ofList l 0 .leaf

/-! What is kept: what is read of a slot that was not written ahead of it in the same region. -/

def memNat (t : Nat) (l : List Nat) : Bool := List.rec (motive := fun _ => Bool) false (fun x _ ih => sel (Nat.beq x t) true ih) l
def keepAll (written : List Nat) : List Nat → Tree Unit → Tree Unit
  | [], k => k
  | t :: r, k => sel (memNat t written) (keepAll written r k) (keepAll written r (k.put t (some ())))
def keepOps : List Oper → List Nat → Tree Unit → Tree Unit
  | [], _, k => k
  | o :: r, w, k => keepOps r (match o.dst with | some d => d :: w | none => w) (keepAll w (tmpsOf o.op.operands.toList) k)
/-- Of a region that draws its order: what is not written ahead for sure. -/
def keepDraw (all : List Oper) (ms : List Nat) : List Oper → Nat → Tree Unit → Tree Unit
  | [], _, k => k
  | o :: r, i, k => keepDraw all ms r (i + 1) (keepAll (all.zipIdx.filterMap fun (p, j) => match p.dst, nth ms i with
      | some d, some m => bif bit m j then some d else none
      | _, _ => none) (tmpsOf o.op.operands.toList) k)
def keepOf : Code → Tree Unit → Tree Unit
  | .region _ ops false, k => keepOps ops.toList [] k
  | .region _ ops true, k => match plan ops with
    | some P => keepDraw ops.toList P.masks ops.toList 0 k
    | none => k
  | .seq a b, k => keepOf b (keepOf a k)
  | .cond x a b, k => keepOf b (keepOf a (keepAll [] (tmpsOf [x]) k))
  | .block _ a, k => keepOf a k
  | .loop a, k => keepOf a k
  | .scope a, k => keepOf a k
  | .rangeFunc f _ a b, k => keepOf b (keepOf a (keepAll [] (tmpsOf [f]) k))
  | _, k => k
def keepResults : List ResultVar → Tree Unit → Tree Unit
  | [], k => k
  | .tmp t :: r, k => keepResults r (k.put t (some ()))
  | .cell a _ :: r, k => keepResults r (k.put a (some ()))

/-- What is entered of a function: its code, how many slots it has, which are kept. -/
structure Entry where
  code : Code
  nt : Nat
  keep : Tree Unit
def entryOf (T : Tabs) (f : FuncId) : Option Entry :=
  match T.fns.get f with
  | some fn => match fn.body with
    | some c => (keepOf c (keepResults fn.results.toList .leaf)).strict fun k => some ⟨c, fn.ntmps, k⟩
    | none => none
  | none => none

/-- A value into a slot, if that is kept. -/
def putKept (keep : Tree Unit) (tmps : Tree AV) (t : Tmp) (v : AV) : Tree AV :=
  Option.rec (motive := fun _ => Tree AV) tmps (fun _ => tmps.put t (some v)) (keep.get t)
def putArgs (keep : Tree Unit) (args : List AV) : Nat → Tree AV → Tree AV :=
  List.rec (motive := fun _ => Nat → Tree AV → Tree AV) (fun _ t => t) (fun v _ ih i t => ih (Nat.succ i) (putKept keep t i v)) args

def enterWith (f : FuncId) (args : List AV) (kind : CallKind) (e : Entry) : Option AFrame :=
  match e with
  | ⟨c, nt, keep⟩ => sel (Nat.ble args.length nt) (some ⟨⟨f, nt, keep, kind, none⟩, putArgs keep args 0 .leaf, [.code c], [], .run⟩) none
def enterFrame (T : Tabs) (f : FuncId) (args : List AV) (kind : CallKind) : Option AFrame :=
  match entryOf T f with
  | some e => enterWith f args kind e
  | none => none

/-- The kept slots behind a region. -/
def keepVals (keep : Tree Unit) (tmps : Tree AV) (prev : List (Option Tmp)) : List AV → Tree AV :=
  List.rec (motive := fun _ => List AV → Tree AV) (fun _ => tmps)
    (fun d _ ih vals => List.rec (motive := fun _ => Tree AV) tmps
      (fun v vs _ => Option.rec (motive := fun _ => Tree AV) (ih vs) (fun t => putKept keep (ih vs) t v) d) vals) prev

/-- A value for the operation (or loop) at which a frame stands: its slots, and what is yet to do. -/
def finishTodo (todo : List AItem) (v : AV) : Option (List AItem) :=
  match todo with
  | .inRegion ops (o :: rest) prev vals :: k => some (.inRegion ops rest (o.dst :: prev) (v :: vals) :: k)
  | .inDraw ops s vals :: k => match plan ops with
    | some P => match nth P.acts s with
      | some i => some (.inDraw ops (Nat.succ s) (vals.put i (some v)) :: k)
      | none => none
    | none => none
  | .inRangeFunc l :: k => some (.endRangeFunc l :: k)
  | _ => none

def contWith (base : ABase) (tmps : Tree AV) (defers : List ADefer) (mode : AMode) (cs : List AFrame) (A : AHeap) (r : Option (List AItem)) : AStep :=
  match r with
  | some todo => .cont ⟨⟨base, tmps, todo, defers, mode⟩, cs, A⟩
  | none => .fail

/-- A frame's value for its caller. -/
def giveTo (cs : List AFrame) (v : AV) (A : AHeap) : AStep :=
  match cs with
  | [] => .done v A
  | ⟨base, tmps, todo, defers, mode⟩ :: cs => contWith base tmps defers mode cs A (finishTodo todo v)

/-- Behind a deferred call. -/
def afterDeferred (cs : List AFrame) (A : AHeap) : AStep :=
  match cs with
  | [] => .fail
  | ⟨base, tmps, todo, defers, mode⟩ :: cs => match mode with
    | .panicking ({ recovered := true, .. } :: _) => .cont ⟨⟨base, tmps, todo, defers, .returning⟩, cs, A⟩
    | m => .cont ⟨⟨base, tmps, todo, defers, m⟩, cs, A⟩

def doReturn (kind : CallKind) (cs : List AFrame) (v : AV) (A : AHeap) : AStep :=
  match kind with
  | .normal => giveTo cs v A
  | .deferred => afterDeferred cs A
  | _ => .fail

def raise (fr : AFrame) (vs : List APanic) : AFrame :=
  match fr with
  | ⟨base, tmps, todo, defers, mode⟩ => match mode with
    | .panicking chain => ⟨base, tmps, todo, defers, .panicking (vs ++ chain)⟩
    | _ => match todo with
      | .inDraw ops s vals :: k => ⟨base, loseDsts ops.toList tmps, .inDraw ops s vals :: k, defers, .panicking vs⟩
      | .inRegion ops rest prev vals :: k => ⟨base, loseDsts ops.toList tmps, .inRegion ops rest prev vals :: k, defers, .panicking vs⟩
      | l => ⟨base, tmps, l, defers, .panicking vs⟩

def getLoop (A : AHeap) (l : Nat) : Option ALoop :=
  match A.objs.get l with
  | some (.loop r) => some r
  | _ => none
def setLoop (A : AHeap) (l : Nat) (r : ALoop) (state : LoopState) (pending : Option Code) : AHeap :=
  match r with
  | ⟨_, _, fn, tmps, nt, keep, params, assign, body, defers⟩ => A.setObj l (.loop ⟨state, pending, fn, tmps, nt, keep, params, assign, body, defers⟩)

def putAll (keep : Tree Unit) : List Tmp → List AV → Tree AV → Tree AV
  | t :: ts, v :: vs, tmps => putAll keep ts vs (putKept keep tmps t v)
  | _, _, tmps => tmps
def allBelow (n : Nat) : List Nat → Bool
  | [] => true
  | t :: r => Nat.blt t n && allBelow n r

def enterStep (T : Tabs) (fr : AFrame) (cs : List AFrame) (f : FuncId) (args : List AV) (A : AHeap) : AStep :=
  match enterFrame T f args .normal with
  | some c => .cont ⟨c, fr :: cs, A⟩
  | none => .fail
def roundWith (fr : AFrame) (cs : List AFrame) (l : Nat) (args : List AV) (A : AHeap) (r : ALoop) : AStep :=
  match r with
  | ⟨_, _, fn, tmps, nt, keep, params, assign, body, _⟩ =>
    sel (Nat.beq args.length params.length) (sel (allBelow nt params)
      (.cont ⟨⟨⟨fn, nt, keep, .normal, some l⟩, putAll keep params args tmps, [.code assign, .beginRound, .code body], [], .run⟩, fr :: cs, A⟩) .fail) .fail
def roundStep (fr : AFrame) (cs : List AFrame) (l : Nat) (args : List AV) (A : AHeap) : AStep :=
  match getLoop A l with
  | some r => roundWith fr cs l args A r
  | none => .fail
def deferStep (fr : AFrame) (cs : List AFrame) (d : ADef) (A : AHeap) : AStep :=
  match fr with
  | ⟨base, tmps, todo, defers, mode⟩ => match base.roundOf with
    | none => contWith base tmps (.call d :: defers) mode cs A (finishTodo todo .undef)
    | some _ => .fail
def recoverStep (fr : AFrame) (cs : List AFrame) (A : AHeap) : AStep :=
  match fr with
  | ⟨base, tmps, todo, defers, mode⟩ => match base with
    | ⟨fn, nt, keep, .deferred, none⟩ => match cs with
      | ⟨base', tmps', todo', defers', .panicking (⟨v, false⟩ :: older)⟩ :: rest =>
        contWith ⟨fn, nt, keep, .deferred, none⟩ tmps defers mode (⟨base', tmps', todo', defers', .panicking (⟨v, true⟩ :: older)⟩ :: rest) A (finishTodo todo v)
      | c :: rest => contWith ⟨fn, nt, keep, .deferred, none⟩ tmps defers mode (c :: rest) A (finishTodo todo .nili)
      | [] => .fail
    | _ => .fail

/-- What an operation's result does to a frame that stands at it. -/
def apply (T : Tabs) (fr : AFrame) (cs : List AFrame) (r : ARes) (A : AHeap) : AStep :=
  match r with
  | .val v => match fr with
    | ⟨base, tmps, todo, defers, mode⟩ => contWith base tmps defers mode cs A (finishTodo todo v)
  | .skip => match fr with
    | ⟨base, tmps, todo, defers, mode⟩ => contWith base tmps defers mode cs A (finishTodo todo .undef)
  | .enter f args => enterStep T fr cs f args A
  | .round l args => roundStep fr cs l args A
  | .defer d => deferStep fr cs d A
  | .recover => recoverStep fr cs A
  | .panic v => .cont ⟨raise fr [⟨v, false⟩], cs, A⟩

def leave (base : ABase) (tmps : Tree AV) (defers : List ADefer) (cs : List AFrame) (A : AHeap) (jump : Option Code) : AStep :=
  match base.roundOf with
  | none => match jump with
    | none => .cont ⟨⟨base, tmps, [], defers, .returning⟩, cs, A⟩
    | some .ret => .cont ⟨⟨base, tmps, [], defers, .returning⟩, cs, A⟩
    | _ => .fail
  | some l => match getLoop A l with
    | some r => match jump with
      | none => giveTo cs (.bool true) (setLoop A l r .ready none)
      | some j => giveTo cs (.bool false) (setLoop A l r .done (some j))
    | none => .fail

def isReady : LoopState → Bool
  | .ready => true
  | _ => false
def isBusy : LoopState → Bool
  | .busy => true
  | _ => false

def wanted (T : Tabs) (ops : Array Oper) (prev : List (Option Tmp)) (vals : List AV) (tmps : Tree AV) (guard : Option (Nat × Bool)) : Option Bool :=
  Option.rec (motive := fun _ => Option Bool) (some true)
    (fun g => Option.rec (motive := fun _ => Option Bool) (some false) (fun d => wantedBy g.2 (evalIn T prev vals tmps (.tmp d))) (dstAt ops.toList g.1)) guard

/-- What a row of operations of a plain region comes to. -/
inductive RRes where
  | done (tmps : Tree AV) (A : AHeap)
  | stop (rest : List Oper) (prev : List (Option Tmp)) (vals : List AV) (r : ARes) (A : AHeap)
  | fail

def ranOp (o : Oper) (rest : List Oper) (prev : List (Option Tmp)) (vals : List AV) (ih : List AV → AHeap → RRes) (r : ARes) (A : AHeap) : RRes :=
  match r with
  | .val v => ih (v :: vals) A
  | .skip => ih (.undef :: vals) A
  | r => .stop (o :: rest) prev vals r A

def ranOpt (o : Oper) (rest : List Oper) (prev : List (Option Tmp)) (vals : List AV) (ih : List AV → AHeap → RRes) (r : Option (ARes × AHeap)) : RRes :=
  Option.rec (motive := fun _ => RRes) .fail (fun p => Prod.rec (motive := fun _ => RRes) (fun r A => ranOp o rest prev vals ih r A) p) r

def oneOp (T : Tabs) (ops : Array Oper) (o : Oper) (rest : List Oper) (prev : List (Option Tmp)) (ih : List AV → AHeap → RRes) (tmps : Tree AV) (vals : List AV) (A : AHeap) : RRes :=
  Option.rec (motive := fun _ => RRes) .fail
    (fun b => sel b (ranOpt o rest prev vals ih (exec T (evalIn T prev vals tmps) A o.op)) (ih (.undef :: vals) A)) (wanted T ops prev vals tmps o.guard)

def runOps (T : Tabs) (keep : Tree Unit) (ops : Array Oper) (tmps : Tree AV) (l : List Oper) : List (Option Tmp) → List AV → AHeap → RRes :=
  List.rec (motive := fun _ => List (Option Tmp) → List AV → AHeap → RRes) (fun prev vals A => .done (keepVals keep tmps prev vals) A)
    (fun o rest ih prev vals A => oneOp T ops o rest prev (ih (o.dst :: prev)) tmps vals A) l

def goTo (base : ABase) (tmps : Tree AV) (defers : List ADefer) (cs : List AFrame) (A : AHeap) (todo : List AItem) : AStep :=
  .cont ⟨⟨base, tmps, todo, defers, .run⟩, cs, A⟩

def stepRegion (T : Tabs) (base : ABase) (tmps : Tree AV) (defers : List ADefer) (cs : List AFrame) (A : AHeap) (ops : Array Oper) (rest : List Oper) (prev : List (Option Tmp)) (vals : List AV) (k : List AItem) : AStep :=
  match runOps T base.keep ops tmps rest prev vals A with
  | .done t A => goTo base t defers cs A k
  | .stop rest prev vals r A => apply T ⟨base, tmps, .inRegion ops rest prev vals :: k, defers, .run⟩ cs r A
  | .fail => .fail

/-- The act of a stage, or the end. -/
def actDraw (T : Tabs) (base : ABase) (tmps : Tree AV) (defers : List ADefer) (cs : List AFrame) (A : AHeap) (ops : Array Oper) (P : Plan) (s : Nat) (vals : Tree AV) (k : List AItem) : AStep :=
  match nth P.acts s with
  | none => goTo base (putDsts base.keep ops.toList 0 vals tmps) defers cs A k
  | some i => match nth ops.toList i, nth P.masks i with
    | some o, some m => match wantedD ops.toList m vals o with
      | none => .fail
      | some false => goTo base tmps defers cs A (.inDraw ops (Nat.succ s) (vals.put i (some .undef)) :: k)
      | some true => match exec T (drawEval T ops.toList P.masks i m tmps vals) A o.op with
        | some (r, A') => apply T ⟨base, tmps, .inDraw ops s vals :: k, defers, .run⟩ cs r A'
        | none => .fail
    | _, _ => .fail
def stepDraw (T : Tabs) (base : ABase) (tmps : Tree AV) (defers : List ADefer) (cs : List AFrame) (A : AHeap) (ops : Array Oper) (s : Nat) (vals : Tree AV) (k : List AItem) : AStep :=
  match plan ops with
  | none => .fail
  | some P => match stageOps T ops.toList P s tmps ops.toList 0 vals A with
    | none => .fail
    | some (vals, A) => bif stageOk T ops.toList P s tmps vals A ops.toList 0 then actDraw T base tmps defers cs A ops P s vals k else .fail

def stepEndRange (base : ABase) (tmps : Tree AV) (defers : List ADefer) (cs : List AFrame) (A : AHeap) (l : Nat) (k : List AItem) : AStep :=
  match getLoop A l with
  | some r => sel (isBusy r.state) .fail
      (goTo base tmps defers cs (setLoop A l r .exhausted r.pending) (match r.pending with | some c => .code c :: k | none => k))
  | none => .fail

def stepBegin (base : ABase) (tmps : Tree AV) (defers : List ADefer) (cs : List AFrame) (A : AHeap) (k : List AItem) : AStep :=
  match base.roundOf with
  | some l => match getLoop A l with
    | some r => sel (isReady r.state) (goTo base tmps defers cs (setLoop A l r .busy r.pending) k) .fail
    | none => .fail
  | none => .fail

def stepCond (base : ABase) (tmps : Tree AV) (defers : List ADefer) (cs : List AFrame) (A : AHeap) (x : Option AV) (thn els : Code) (k : List AItem) : AStep :=
  match x with
  | some (.bool b) => goTo base tmps defers cs A (.code (sel b thn els) :: k)
  | _ => .fail

def stepExit (base : ABase) (tmps : Tree AV) (defers : List ADefer) (cs : List AFrame) (A : AHeap) (id : Nat) (k : List AItem) : AStep :=
  match exitTo id k with
  | some k' => goTo base tmps defers cs A k'
  | none => leave base tmps defers cs A (some (.exit id))
def stepGoto (base : ABase) (tmps : Tree AV) (defers : List ADefer) (cs : List AFrame) (A : AHeap) (l : Nat) (k : List AItem) : AStep :=
  match gotoIn l k with
  | some k' => goTo base tmps defers cs A k'
  | none => leave base tmps defers cs A (some (.goto l))

def callRange (T : Tabs) (base : ABase) (tmps : Tree AV) (defers : List ADefer) (cs : List AFrame) (A : AHeap) (l : Nat) (f : Option AV) (k : List AItem) : AStep :=
  match f with
  | some (.fn g first captured) => match invoke T A g captured (first ++ [.fn (.yield l) [] []]) with
    | some (.enter h args, A) => enterStep T ⟨base, tmps, .inRangeFunc l :: k, defers, .run⟩ cs h args A
    | _ => .fail
  | _ => .fail

def stepRangeFunc (T : Tabs) (base : ABase) (tmps : Tree AV) (defers : List ADefer) (cs : List AFrame) (A : AHeap) (f : Operand) (params : List Tmp) (assign body : Code) (k : List AItem) : AStep :=
  match base.roundOf with
  | none => match A.new (.defd (some [])) with
    | (d, A) => match A.new (.loop ⟨.ready, none, base.fn, tmps, base.nt, base.keep, params, assign, body, d⟩) with
      | (l, A) => callRange T base tmps (.mark d :: defers) cs A l (evalOp T tmps f) k
  | some o => match getLoop A o with
    | some r => match A.new (.loop ⟨.ready, none, base.fn, tmps, base.nt, base.keep, params, assign, body, r.defers⟩) with
      | (l, A) => callRange T base tmps defers cs A l (evalOp T tmps f) k
    | none => .fail

def startRegion (T : Tabs) (base : ABase) (tmps : Tree AV) (defers : List ADefer) (cs : List AFrame) (A : AHeap) (ops : Array Oper) (draw : Bool) (k : List AItem) : AStep :=
  sel draw (sel (dstsIn base.nt ops.toList) (stepDraw T base tmps defers cs A ops 0 .leaf k) .fail) (sel (dstsIn base.nt ops.toList) (stepRegion T base tmps defers cs A ops ops.toList [] [] k) .fail)

/-- What a piece of code does, without its surroundings. -/
structure CAct where
  go : ABase → Tree AV → List ADefer → List AFrame → AHeap → List AItem → AStep

def codeOf (T : Tabs) (c : Code) : CAct :=
  match c with
  | .skip => ⟨fun base tmps defers cs A k => goTo base tmps defers cs A k⟩
  | .label _ => ⟨fun base tmps defers cs A k => goTo base tmps defers cs A k⟩
  | .seq a b => ⟨fun base tmps defers cs A k => goTo base tmps defers cs A (.code a :: .code b :: k)⟩
  | .cond x thn els => ⟨fun base tmps defers cs A k => stepCond base tmps defers cs A (evalOp T tmps x) thn els k⟩
  | .block id body => ⟨fun base tmps defers cs A k => goTo base tmps defers cs A (.code body :: .inBlock id :: k)⟩
  | .loop body => ⟨fun base tmps defers cs A k => goTo base tmps defers cs A (.code body :: .inLoop body :: k)⟩
  | .scope body => ⟨fun base tmps defers cs A k => goTo base tmps defers cs A (.code body :: .inScope body :: k)⟩
  | .ret => ⟨fun base tmps defers cs A _ => leave base tmps defers cs A (some .ret)⟩
  | .exit id => ⟨fun base tmps defers cs A k => stepExit base tmps defers cs A id k⟩
  | .goto l => ⟨fun base tmps defers cs A k => stepGoto base tmps defers cs A l k⟩
  | .region _ ops draw => ⟨fun base tmps defers cs A k => startRegion T base tmps defers cs A ops draw k⟩
  | .rangeFunc f params assign body => ⟨fun base tmps defers cs A k => stepRangeFunc T base tmps defers cs A f params.toList assign body k⟩
  | .refuse _ => ⟨fun _ _ _ _ _ _ => .fail⟩

def stepItem (T : Tabs) (base : ABase) (tmps : Tree AV) (defers : List ADefer) (cs : List AFrame) (A : AHeap) (it : AItem) (k : List AItem) : AStep :=
  match it with
  | .code c => (codeOf T c).go base tmps defers cs A k
  | .inRegion ops rest prev vals => stepRegion T base tmps defers cs A ops rest prev vals k
  | .inBlock _ => goTo base tmps defers cs A k
  | .inScope _ => goTo base tmps defers cs A k
  | .inLoop body => goTo base tmps defers cs A (.code body :: .inLoop body :: k)
  | .inDraw ops s vals => stepDraw T base tmps defers cs A ops s vals k
  | .inRangeFunc _ => .fail
  | .endRangeFunc l => stepEndRange base tmps defers cs A l k
  | .beginRound => stepBegin base tmps defers cs A k

def stepRun (T : Tabs) (base : ABase) (tmps : Tree AV) (todo : List AItem) (defers : List ADefer) (cs : List AFrame) (A : AHeap) : AStep :=
  List.rec (motive := fun _ => AStep) (leave base tmps defers cs A none) (fun it k _ => stepItem T base tmps defers cs A it k) todo

def resultsOf (T : Tabs) (A : AHeap) (tmps : Tree AV) : List ResultVar → Option (List AV)
  | [] => some []
  | .tmp t :: r => match resultsOf T A tmps r with
    | some l => some (getTmp tmps t :: l)
    | none => none
  | .cell a t :: r => match getTmp tmps a with
    | .ptr b o => match loadVar T A t b o, resultsOf T A tmps r with
      | some v, some l => some (v :: l)
      | _, _ => none
    | _ => none
def results (T : Tabs) (A : AHeap) (tmps : Tree AV) (rs : List ResultVar) : Option AV :=
  match resultsOf T A tmps rs with
  | some [v] => some v
  | some l => some (.tup l)
  | none => none

def resultOf (T : Tabs) (fn : FuncId) (tmps : Tree AV) (A : AHeap) : Option AV :=
  match T.fns.get fn with
  | some f => results T A tmps f.results.toList
  | none => none

def stepDefers (T : Tabs) (base : ABase) (tmps : Tree AV) (todo : List AItem) (defers : List ADefer) (mode : AMode) (cs : List AFrame) (A : AHeap) (last : AStep) : AStep :=
  match defers with
  | .mark b :: ds => match A.objs.get b with
    | some (.defd (some l)) => .cont ⟨⟨base, tmps, todo, l ++ ds, mode⟩, cs, A.setObj b (.defd none)⟩
    | _ => .fail
  | .call d :: ds => match invoke T A d.fn d.captured d.args with
    | some (.enter f args, A) => match enterFrame T f args .deferred with
      | some c => .cont ⟨c, ⟨base, tmps, todo, ds, mode⟩ :: cs, A⟩
      | none => .fail
    | _ => .fail
  | [] => last

def stepReturning (T : Tabs) (base : ABase) (tmps : Tree AV) (cs : List AFrame) (A : AHeap) : AStep :=
  match resultOf T base.fn tmps A with
  | some v => doReturn base.kind cs v A
  | none => .fail
def stepPanicking (T : Tabs) (base : ABase) (chain : List APanic) (cs : List AFrame) (A : AHeap) : AStep :=
  match T.fns.get base.fn with
  | some _ => match cs with
    | [] => .died chain A
    | c :: rest => .cont ⟨raise c chain, rest, A⟩
  | none => .fail

def step (T : Tabs) (s : ASt) : AStep :=
  match s with
  | ⟨⟨base, tmps, todo, defers, mode⟩, cs, A⟩ => match mode with
    | .run => stepRun T base tmps todo defers cs A
    | .returning => stepDefers T base tmps todo defers .returning cs A (stepReturning T base tmps cs A)
    | .panicking chain => stepDefers T base tmps todo defers (.panicking chain) cs A (stepPanicking T base chain cs A)

/-- One step, and the rest. -/
def onward (ih : ASt → AStep) (r : AStep) : AStep :=
  AStep.rec (motive := fun _ => AStep) (fun s => ih s) (fun v A => .done v A) (fun c A => .died c A) .fail r
def run (T : Tabs) (n : Nat) : ASt → AStep :=
  Nat.rec (motive := fun _ => ASt → AStep) (fun _ => .fail) (fun _ ih s => onward ih (step T s)) n

end
end Go.Abs
