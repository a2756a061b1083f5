/- Part 1 of the proof: an evaluator of programs and its soundness. -/
import Derived.Calls
import Derived.Below
import Derived.Laws.Tables
import Derived.Laws.StructEq
import Derived.Laws.BytesString
import Derived.Lib.ConvBytes
import Derived.Laws.RangeString
namespace Go.Ev

/-- May a slice be appended to: not known; its capacity is its length; it ends where its row ends so far. -/
inductive Tk where
  | sealed
  | full
  | tok (t : Nat)
  /-- Its capacity is its length; once it grows it takes a row that is kept for it. -/
  | res (t : Nat)

inductive V where
  | bool (b : Bool)
  | int (k : IntKind) (n : Int)
  | str (s : ByteArray)
  | agg (cs : List V)
  | tup (vs : List V)
  | ptr (b o : Nat)
  | rptr (cs : List V)
  | nilptr
  | sl (tk : Tk) (xs : List V)
  | msl (e : TypeId) (b o n : Nat) (c : Option Nat)
  | nilsl (t : Option Nat)
  | map (b : Nat)
  | nilmap
  | func (fn : Fn) (first cap : List V)
  | yield (l : Nat)
  | nilfunc
  | iface (t : TypeId) (v : V)
  | nilif

abbrev V.undef : V := .tup []

def vcells : V → List V
  | .agg cs => cs
  | v => [v]

structure ALoop where
  state : LoopState
  pending : Option Code
  fn : FuncId
  raw : Bool
  tmps : List V
  params : Array Tmp
  assign : Code
  body : Code

inductive AObj where
  | cells (e : TypeId) (cs : List V)
  | tok (e : TypeId) (n : Nat)
  | map (es : List (V × V))
  | loop (l : ALoop)
  | siter (s : ByteArray) (pos : Nat)
  | dead

abbrev St := List AObj

/-! ### Types -/
def isAggT (P : Program) (t : TypeId) : Bool :=
  match P.underlying t with
  | some (.struct _) | some (.array _ _) => true
  | _ => false
def tsize (P : Program) (t : TypeId) : Nat := P.cellsOf t
def tbytes (P : Program) (t : TypeId) : Nat := P.bytesOf t

/-- A cell without an address. -/
def ofCell : Value → Option V
  | .bool b => some (.bool b)
  | .int k n => some (.int k n)
  | .string s => some (.str s)
  | .pointer none => some .nilptr
  | .slice none 0 0 => some (.nilsl none)
  | .map none => some .nilmap
  | .nilFunc => some .nilfunc
  | .nilIface => some .nilif
  | .tuple vs => if vs.size = 0 then some V.undef else none
  | _ => none

def ofCells : List Value → Option (List V)
  | [] => some []
  | v :: rest =>
    match ofCell v, ofCells rest with
    | some a, some as => some (a :: as)
    | _, _ => none

/-- A value without an address. -/
def ofConst : Value → Option V
  | .agg cs => (ofCells cs.toList).map .agg
  | v => ofCell v

def zeroOf (P : Program) (t : TypeId) : Option V := ((P.info? t).bind (·.zero)).bind ofConst

/-- What a variable of a type reads as, out of its cells. -/
def mkV (P : Program) (t : TypeId) (cs : List V) : Option V := if isAggT P t then some (.agg cs) else cs.head?

/-- A frame's temporaries. -/
abbrev Fr := List V
def get (fr : Fr) (t : Tmp) : V := fr.getD t V.undef
def put (fr : Fr) (d : Option Tmp) (v : V) : Fr :=
  match d with
  | some d => fr.set d v
  | none => fr

def evalO (fr : Fr) : Operand → Option V
  | .tmp t => some (get fr t)
  | .const v => ofConst v
  | .global _ => none
  | .func f => some (.func (.func f) [] [])

def evalL (fr : Fr) : List Operand → Option (List V)
  | [] => some []
  | x :: xs =>
    match evalO fr x, evalL fr xs with
    | some v, some vs => some (v :: vs)
    | _, _ => none

/-! ### Memory -/
def rdCells (σ : St) (b o n : Nat) : Option (List V) :=
  match σ[b]? with
  | some (.cells _ cs) => if o + n ≤ cs.length then some ((cs.drop o).take n) else none
  | _ => none

/-- Can a value stand in one cell. -/
def cellOK : V → Bool
  | .agg _ | .tup _ => false
  | _ => true

def wrCells (σ : St) (b o : Nat) (vs : List V) : Option St :=
  match σ[b]? with
  | some (.cells e cs) => if o + vs.length ≤ cs.length ∧ vs.all cellOK = true then some (σ.set b (.cells e (cs.take o ++ vs ++ cs.drop (o + vs.length)))) else none
  | _ => none

/-- How many cells a variable of a type reads. -/
def nread (P : Program) (t : TypeId) : Nat := if isAggT P t then tsize P t else 1

def readN (σ : St) (n : Nat) : V → Option (List V)
  | .ptr b o => rdCells σ b o n
  | .rptr cs => if n ≤ cs.length then some (cs.take n) else none
  | _ => none

def knownT (P : Program) (t : TypeId) : Bool := (P.underlying t).isSome

def loadV (P : Program) (σ : St) (t : TypeId) (a : V) : Option V := if knownT P t then (readN σ (nread P t) a).bind (mkV P t) else none

def storeV (P : Program) (σ : St) (t : TypeId) (a v : V) : Option St :=
  match a with
  | .ptr b o => if (vcells v).length = tsize P t ∧ 0 < tsize P t then wrCells σ b o (vcells v) else none
  | _ => none

def fieldOf (P : Program) (s : TypeId) (f : Nat) : Option Field :=
  match P.underlying s with
  | some (.struct fs) => fs[f]?
  | _ => none

def shiftP (n : Nat) : V → Option V
  | .ptr b o => some (.ptr b (o + n))
  | .rptr cs => some (.rptr (cs.drop n))
  | _ => none

def fieldAddrV (P : Program) (s : TypeId) (a : V) (f : Nat) : Option V :=
  match fieldOf P s f with
  | some fd => if tsize P fd.type = 0 then none else shiftP fd.offset a
  | none => none

def partV (P : Program) (t : TypeId) (cs : List V) (off : Nat) : Option V :=
  if isAggT P t then some (.agg ((cs.drop off).take (tsize P t))) else cs[off]?

def fieldV (P : Program) (s : TypeId) (x : V) (f : Nat) : Option V :=
  match fieldOf P s f, x with
  | some fd, .agg cs => if knownT P fd.type then partV P fd.type cs fd.offset else none
  | _, _ => none

def indexAddrV (P : Program) (t : TypeId) (x i : V) : Option V :=
  match i with
  | .int _ i =>
    match P.underlying t with
    | some (.array len e) => if 0 ≤ i ∧ i < len ∧ 0 < tsize P e then shiftP (i.toNat * tsize P e) x else none
    | some (.slice e) =>
      match x with
      | .sl _ xs =>
        match (if 0 ≤ i then xs[i.toNat]? else none) with
        | some v => if (vcells v).length = tsize P e ∧ 0 < tsize P e then some (.rptr (vcells v)) else none
        | none => none
      | .msl _ b o n _ => if 0 ≤ i ∧ i < n ∧ 0 < tsize P e then some (.ptr b (o + i.toNat * tsize P e)) else none
      | _ => none
    | _ => none
  | _ => none

def indexV (P : Program) (t : TypeId) (x i : V) : Option V :=
  match i with
  | .int _ i =>
    match P.underlying t, x with
    | some (.array len e), .agg cs => if 0 ≤ i ∧ i < len ∧ 0 < tsize P e ∧ knownT P e = true then partV P e cs (i.toNat * tsize P e) else none
    | some .string, .str s =>
      match (if 0 ≤ i then s[i.toNat]? else none) with
      | some c => some (.int .u8 c.toNat)
      | none => none
    | _, _ => none
  | _ => none

/-- An element, out of its cells. -/
def chunkV (P : Program) (e : TypeId) (cs : List V) : Option V :=
  if isAggT P e then some (.agg cs) else
  match cs with
  | [c] => (match c with | .agg _ => none | c => some c)
  | _ => none

/-- The elements of a slice that has those cells. -/
def chunks (P : Program) (e : TypeId) : Nat → List V → Option (List V)
  | 0, _ => some []
  | n + 1, cs =>
    match chunkV P e (cs.take (tsize P e)), chunks P e n (cs.drop (tsize P e)) with
    | some v, some vs => some (v :: vs)
    | _, _ => none

/-- What a slice holds, whoever owns it. -/
def viewS (P : Program) (σ : St) : V → Option (List V)
  | .sl _ xs => some xs
  | .nilsl _ => some []
  | .msl e b o n _ => (rdCells σ b o (n * tsize P e)).bind (chunks P e n)
  | .str s => some (s.data.toList.map fun c => .int .u8 c.toNat)
  | _ => none

def lenS : V → Option Nat
  | .sl _ xs => some xs.length
  | .nilsl _ => some 0
  | .msl _ _ _ n _ => some n
  | .str s => some s.size
  | _ => none

/-! ### Slices made -/
def bound (x : Option V) (dflt most : Nat) : Option Nat :=
  match x with
  | none => some dflt
  | some (.int _ i) => if 0 ≤ i ∧ i ≤ most then some i.toNat else none
  | _ => none

/-- Elements have as many cells as the type says. -/
def headOK (P : Program) (e : TypeId) (xs : List V) : Bool :=
  decide (0 < tsize P e) && (match xs with | [] => true | x :: _ => (vcells x).length == tsize P e)

/-- May a part of a slice be appended to. -/
def subTk (tk : Tk) (isMax : Bool) (n l h m : Nat) : Tk :=
  if isMax then (if h = m then .full else .sealed)
  else match tk with
    | .full => if h = n then .full else .sealed
    | .res _ => if h = n then .full else .sealed
    | .tok t => if l = 0 ∧ h = n then .tok t else .sealed
    | .sealed => .sealed

def sliceOf (P : Program) (t : TypeId) (x : V) (lo hi mx : Option V) : Option V :=
  if mx.isSome && hi.isNone then none else
  match P.underlying t with
  | some .string =>
    match x, mx with
    | .str s, none =>
      match bound hi s.size s.size with
      | some h => (bound lo 0 h).map fun l => .str (s.extract l h)
      | none => none
    | _, _ => none
  | some (.slice e) =>
    match x with
    | .nilsl _ =>
      match bound mx 0 0, bound hi 0 0, bound lo 0 0 with
      | some _, some _, some _ => if 0 < tsize P e then some (.nilsl none) else none
      | _, _, _ => none
    | .sl tk xs =>
      match bound mx xs.length xs.length with
      | some m =>
        match bound hi xs.length m with
        | some h =>
          match bound lo 0 h with
          | some l => if headOK P e xs then some (.sl (subTk tk mx.isSome xs.length l h m) ((xs.drop l).take (h - l))) else none
          | none => none
        | none => none
      | none => none
    | .msl e' b o n c =>
      if e' ≠ e ∨ tsize P e = 0 then none else
      match c with
      | some c =>
        match bound mx c c with
        | some m =>
          match bound hi n m with
          | some h => (bound lo 0 h).map fun l => .msl e b (if m = l then o else o + l * tsize P e) (h - l) (some (m - l))
          | none => none
        | none => none
      | none =>
        match bound mx n n with
        | some m =>
          match bound hi n m with
          | some h => (bound lo 0 h).bind fun l =>
              if mx.isSome then some (.msl e b (if m = l then o else o + l * tsize P e) (h - l) (some (m - l)))
              else if l = 0 ∧ h = n then some (.msl e b o n none) else none
          | none => none
        | none => none
    | _ => none
  | some (.array n e) =>
    match x with
    | .ptr b o =>
      if tsize P e = 0 ∨ mx.isSome then none else
      match bound hi n n with
      | some h => (bound lo 0 h).map fun l => .msl e b (if n = l then o else o + l * tsize P e) (h - l) (some (n - l))
      | none => none
    | _ => none
  | _ => none

/-- Is there memory for so many more: the model's own bound is met. -/
def fits (P : Program) (e : TypeId) (n : Nat) : Bool := decide (n * tbytes P e ≤ 2 ^ 46) && decide (tbytes P e ≤ 2 ^ 20) && decide (n ≤ 2 ^ 46)

/-- A type's zero is known, and has its cells. -/
def zeroOK (P : Program) (e : TypeId) : Bool := ((P.info? e).bind (·.zero)).any fun z => z.cells.size == tsize P e

/-- append. own: a new row is one of the store's. -/
def appendV (P : Program) (own : Bool) (e : TypeId) (σ : St) (s : V) (ys : List V) : Option (V × St) :=
  if ys.all (fun y => (vcells y).length == tsize P e && (vcells y).all cellOK) && (decide (0 < tsize P e) && zeroOK P e) then
    match s with
    | .nilsl t =>
      if ys = [] then some (.nilsl t, σ) else
      if !fits P e ys.length then none else
      if own then some (.msl e σ.length 0 ys.length none, σ ++ [.cells e (ys.flatMap vcells)]) else
      match t with
      | none => some (.sl (.tok σ.length) ys, σ ++ [.tok e ys.length])
      | some t =>
        match σ[t]? with
        | some (.tok e' 0) => if e' = e then some (.sl (.tok t) ys, σ.set t (.tok e ys.length)) else none
        | _ => none
    | .sl tk xs =>
      if ys = [] then some (.sl tk xs, σ) else
      if !(xs.all (fun x => (vcells x).length == tsize P e)) then none else
      if !fits P e (xs.length + ys.length) then none else
      match tk with
      | .sealed => none
      | .full =>
        if own then some (.msl e σ.length 0 (xs.length + ys.length) none, σ ++ [.cells e ((xs ++ ys).flatMap vcells)]) else
        some (.sl (.tok σ.length) (xs ++ ys), σ ++ [.tok e (xs.length + ys.length)])
      | .tok t =>
        match σ[t]? with
        | some (.tok e' n) => if e' = e ∧ n = xs.length ∧ 0 < n then some (.sl (.tok t) (xs ++ ys), σ.set t (.tok e (xs.length + ys.length))) else none
        | _ => none
      | .res t =>
        if own then none else
        match σ[t]? with
        | some (.tok e' 0) => if e' = e then some (.sl (.tok t) (xs ++ ys), σ.set t (.tok e (xs.length + ys.length))) else none
        | _ => none
    | .msl e' b o n c =>
      if ys = [] then some (.msl e' b o n c, σ) else
      if e' ≠ e ∨ !fits P e (n + ys.length) then none else
      match c with
      | some c =>
        if n + ys.length ≤ c then
          (wrCells σ b (o + n * tsize P e) (ys.flatMap vcells)).map fun σ' => (.msl e b o (n + ys.length) (some c), σ')
        else
          match viewS P σ s with
          | none => none
          | some xs =>
            if own then some (.msl e σ.length 0 (n + ys.length) none, σ ++ [.cells e ((xs ++ ys).flatMap vcells)])
            else some (.sl (.tok σ.length) (xs ++ ys), σ ++ [.tok e (n + ys.length)])
      | none =>
        match σ[b]? with
        | some (.cells e'' cs) =>
          if o = 0 ∧ e'' = e ∧ cs.length = n * tsize P e then
            some (.msl e σ.length 0 (n + ys.length) none, (σ.set b .dead) ++ [.cells e (cs ++ ys.flatMap vcells)])
          else none
        | _ => none
    | _ => none
  else none

/-- make. -/
def makeV (P : Program) (own : Bool) (t : TypeId) (σ : St) (len cap : Int) : Option (V × St) :=
  match P.underlying t with
  | some (.slice e) =>
    match zeroOf P e with
    | some z =>
      if (vcells z).length = tsize P e ∧ 0 < tsize P e ∧ 0 ≤ len ∧ len ≤ cap ∧ fits P e cap.toNat = true then
        if own then some (.msl e σ.length 0 len.toNat (some cap.toNat), σ ++ [.cells e ((List.replicate cap.toNat z).flatMap vcells)])
        else if len = cap then some (.sl .full (List.replicate len.toNat z), σ)
        else none
      else none
    | none => none
  | _ => none

/-- The parts of a literal laid over zeros. -/
def fillV (place : Nat → Option (Nat × Nat)) : List V → List (Nat × V) → Option (List V)
  | cs, [] => some cs
  | cs, (i, v) :: rest =>
    match place i with
    | none => none
    | some (off, size) =>
      if (vcells v).length = size ∧ off + size ≤ cs.length then fillV place (cs.take off ++ vcells v ++ cs.drop (off + size)) rest
      else none

/-- Where the parts of a struct or an array lie. -/
def placesOf (P : Program) (t : TypeId) : Option (Nat → Option (Nat × Nat)) :=
  match P.underlying t with
  | some (.struct fs) => (fs.toList.mapM (fun f => (P.info? f.type).map fun i => (f.offset, i.size))).map fun places => fun i => places[i]?
  | some (.array _ e) => (P.info? e).map fun ie => fun i => some (i * ie.size, ie.size)
  | _ => none

def buildV (P : Program) (t : TypeId) (parts : List (Nat × V)) : Option V :=
  match zeroOf P t, placesOf P t with
  | some z, some place => (fillV place (vcells z) parts).map .agg
  | _, _ => none

def listSet (xs : List V) : List (Nat × V) → Option (List V)
  | [] => some xs
  | (i, v) :: rest => if i < xs.length then listSet (xs.set i v) rest else none

/-- A literal of a slice. -/
def buildSliceV (P : Program) (own : Bool) (t : TypeId) (σ : St) (len : Nat) (parts : List (Nat × V)) : Option (V × St) :=
  match P.underlying t with
  | some (.slice e) =>
    match zeroOf P e with
    | some z =>
      if (vcells z).length = tsize P e ∧ 0 < tsize P e ∧ len * tsize P e ≤ 2 ^ 24 ∧ (parts.all fun p => (vcells p.2).length == tsize P e) = true then
        match listSet (List.replicate len z) parts with
        | some xs =>
          if own then (if len = 0 then some (.sl (.res σ.length) xs, σ ++ [.tok e 0]) else some (.msl e σ.length 0 len (some len), σ ++ [.cells e (xs.flatMap vcells)]))
          else some (.sl .full xs, σ)
        | none => none
      else none
    | none => none
  | _ => none

/-! ### Arithmetic and comparison -/
def binInt (op : BinOp) (k : IntKind) (a b : Int) : Option V :=
  match op with
  | .add => some (.int k (k.wrap (a + b)))
  | .sub => some (.int k (k.wrap (a - b)))
  | .mul => some (.int k (k.wrap (a * b)))
  | .quo => if b = 0 then none else some (.int k (k.wrap (a.tdiv b)))
  | .rem => if b = 0 then none else some (.int k (a.tmod b))
  | .and => some (.int k (k.wrap (BitVec.ofInt k.bits a &&& BitVec.ofInt k.bits b).toNat))
  | .or => some (.int k (k.wrap (BitVec.ofInt k.bits a ||| BitVec.ofInt k.bits b).toNat))
  | .xor => some (.int k (k.wrap (BitVec.ofInt k.bits a ^^^ BitVec.ofInt k.bits b).toNat))
  | .andNot => some (.int k (k.wrap (BitVec.ofInt k.bits a &&& ~~~ BitVec.ofInt k.bits b).toNat))
  | .eql => some (.bool (a == b))
  | .neq => some (.bool (a != b))
  | .lss => some (.bool (a < b))
  | .leq => some (.bool (a ≤ b))
  | .gtr => some (.bool (a > b))
  | .geq => some (.bool (a ≥ b))
  | _ => none

def binStr (op : BinOp) (x y : ByteArray) : Option V :=
  match op with
  | .add => if ((x.size + y.size : Nat) : Int) > IntKind.i64.max then none else some (.str (x ++ y))
  | .eql => some (.bool (x.toList == y.toList))
  | .neq => some (.bool !(x.toList == y.toList))
  | .lss => some (.bool (Op.bytesLess x.toList y.toList))
  | .leq => some (.bool (Op.bytesLess x.toList y.toList || x.toList == y.toList))
  | .gtr => some (.bool !(Op.bytesLess x.toList y.toList || x.toList == y.toList))
  | .geq => some (.bool !(Op.bytesLess x.toList y.toList))
  | _ => none

/-- Are two values equal (of those that are compared without looking at addresses). -/
def eqV (P : Program) : Nat → TypeId → V → V → Option Bool
  | 0, _, _, _ => none
  | d + 1, t, x, y =>
    match P.underlying t, x, y with
    | some .bool, .bool a, .bool b => some (a == b)
    | some (.int _), .int k a, .int k' b => if k = k' then some (a == b) else none
    | some .string, .str a, .str b => some (a == b)
    | some (.pointer _), .nilptr, .nilptr => some true
    | some (.pointer _), .nilptr, .ptr _ _ | some (.pointer _), .ptr _ _, .nilptr => some false
    | some (.interface _), .nilif, .nilif => some true
    | some (.interface _), .nilif, .iface _ _ | some (.interface _), .iface _ _, .nilif => some false
    | some (.slice _), .nilsl _, .nilsl _ => some true
    | some (.slice _), .nilsl _, .sl _ _ | some (.slice _), .sl _ _, .nilsl _ => some false
    | some (.slice _), .nilsl _, .msl .. | some (.slice _), .msl .., .nilsl _ => some false
    | some (.func _ _ _), .nilfunc, .nilfunc => some true
    | some (.func _ _ _), .nilfunc, .func _ _ _ | some (.func _ _ _), .func _ _ _, .nilfunc => some false
    | some (.map _ _), .nilmap, .nilmap => some true
    | some (.map _ _), .nilmap, .map _ | some (.map _ _), .map _, .nilmap => some false
    | some (.struct fs), .agg xs, .agg ys =>
      if P.stoodInHeld t then none else goS P d xs ys fs.toList
    | _, _, _ => none
where
  goS (P : Program) (d : Nat) (xs ys : List V) : List Field → Option Bool
    | [] => some true
    | f :: fs =>
      if f.name = "_" then none else
      match partV P f.type xs f.offset, partV P f.type ys f.offset with
      | some a, some b =>
        match eqV P d f.type a b with
        | some true => goS P d xs ys fs
        | some false => some false
        | none => none
      | _, _ => none

end Go.Ev

namespace Go.Ev

/-- What is chosen outside: which rows are the store's own, which calls keep all that they made; and functions that are known by other means. -/
structure Cfg where
  P : Program
  /-- Function, raw or not, temporary: the slice that is made there can be written. -/
  own : FuncId → Bool → Tmp → Bool
  /-- Function, raw or not, temporary: the call there is raw. -/
  raw : FuncId → Bool → Tmp → Bool
  prim : FuncId → List V → St → Option (V × St)
  isPrim : FuncId → Bool

def keyEq : TypeDesc → V → V → Option Bool
  | .int _, .int k a, .int k' b => if k = k' then some (a == b) else none
  | .string, .str a, .str b => some (a == b)
  | _, _, _ => none

def findM (d : TypeDesc) (k : V) : List (V × V) → Nat → Option (Option (Nat × V))
  | [], _ => some none
  | e :: es, i =>
    match keyEq d k e.1 with
    | some true => some (some (i, e.2))
    | some false => findM d k es (i + 1)
    | none => none

/-- Kinds of keys that are compared at once. -/
def plainKey (P : Program) (t : TypeId) : Option TypeDesc :=
  match P.underlying t with
  | some (.int k) => some (.int k)
  | some .string => some .string
  | _ => none

def mapOf (σ : St) : V → Option (List (V × V))
  | .nilmap => some []
  | .map b => match σ[b]? with
    | some (.map es) => some es
    | _ => none
  | _ => none

def lookupV (P : Program) (σ : St) (t : TypeId) (m k : V) (ok : Bool) : Option V :=
  match P.underlying t with
  | some (.map key e) =>
    match plainKey P key, mapOf σ m with
    | some d, some es =>
      match findM d k es 0 with
      | some (some (_, v)) => some (if ok then .tup [v, .bool true] else v)
      | some none => (zeroOf P e).map fun z => if ok then .tup [z, .bool false] else z
      | none => none
    | _, _ => none
  | _ => none

def updateV (P : Program) (σ : St) (t : TypeId) (m k v : V) : Option St :=
  match P.underlying t, m with
  | some (.map key _), .map b =>
    match plainKey P key, σ[b]? with
    | some d, some (.map es) =>
      match findM d k es 0 with
      | some (some (i, _)) => some (σ.set b (.map (es.set i (k, v))))
      | some none => some (σ.set b (.map (es ++ [(k, v)])))
      | none => none
    | _, _ => none
  | _, _ => none

def binV (P : Program) (op : BinOp) (t : TypeId) (ox oy : Operand) (x y : V) : Option V :=
  match op, x, y with
  | .shl, .int k a, .int _ b => if b < 0 then none else some (.int k (k.wrap (a * 2 ^ (min b.toNat k.bits))))
  | .shr, .int k a, .int _ b => if b < 0 then none else some (.int k (a.fdiv (2 ^ (min b.toNat k.bits))))
  | op, .int k a, .int k' b => if k = k' then binInt op k a b else none
  | op, .str a, .str b => binStr op a b
  | .eql, x, y => if guard x y then (eqV P Op.maxDepth t x y).map .bool else none
  | .neq, x, y => if guard x y then (eqV P Op.maxDepth t x y).map fun b => .bool (!b) else none
  | _, _, _ => none
where
  guard (x y : V) : Bool :=
    match x, y with
    | .nilif, .nilif => (ox matches .const _) || (oy matches .const _)
    | .agg _, .agg _ => !P.eqGuardType P.depth t
    | _, _ => true

def unV (op : UnOp) (x : V) : Option V :=
  match op, x with
  | .neg, .int k n => some (.int k (k.wrap (0 - n)))
  | .xor, .int k n => some (.int k (k.wrap (BitVec.ofInt k.bits (if k.signed then -1 else k.max) ^^^ BitVec.ofInt k.bits n).toNat))
  | .not, .bool b => some (.bool !b)
  | _, _ => none

def isStr : V → Bool
  | .str _ => true
  | _ => false
def isByte : V → Bool
  | .int .u8 _ => true
  | _ => false
def byteOf : V → UInt8
  | .int .u8 n => UInt8.ofNat n.toNat
  | _ => 0
def strOfBytes (vs : List V) : Option V := if vs.all isByte = true then some (.str ⟨(vs.map byteOf).toArray⟩) else none

/-- The string of a slice of bytes. -/
def strOf (P : Program) (σ : St) (e : TypeId) (x : V) : Option V :=
  if tsize P e = 1 ∧ isStr x = false then (viewS P σ x).bind strOfBytes else none

def convV (P : Program) (own : Bool) (σ : St) (src dst : TypeId) (x : V) : Option (V × St) :=
  match P.underlying src, P.underlying dst, x with
  | some _, some (.int k), .int _ n => some (.int k (k.wrap n), σ)
  | some _, some .string, .str s => some (.str s, σ)
  | some _, some (.slice e), .str s =>
    match P.underlying e with
    | some (.int .u8) =>
      if tsize P e = 1 then
        if own then some (.msl e σ.length 0 s.size none, σ ++ [.cells e (s.data.toList.map fun c => .int .u8 c.toNat)])
        else some (.sl .sealed (s.data.toList.map fun c => .int .u8 c.toNat), σ)
      else none
    | _ => none
  | some (.slice e), some .string, x =>
    match P.underlying e with
    | some (.int .u8) => (strOf P σ e x).map fun v => (v, σ)
    | _ => none
  | _, _, _ => none

def arrPtrV (P : Program) (t : TypeId) (x : V) : Option V :=
  match P.underlying t, x with
  | some (.array n e), .sl _ xs =>
    if n ≤ xs.length ∧ 0 < n ∧ (xs.all fun v => (vcells v).length == tsize P e) = true then some (.rptr ((xs.take n).flatMap vcells)) else none
  | some (.array n _), .msl _ b o m _ => if n ≤ m then some (.ptr b o) else none
  | _, _ => none

def minmax (isMax : Bool) : V → List V → Option V
  | .int k x, [] => some (.int k x)
  | .int k x, .int _ y :: rest => minmax isMax (.int k (if isMax then (if y > x then y else x) else (if y < x then y else x))) rest
  | _, _ => none

def builtinV (P : Program) (own : Bool) (σ : St) (b : Builtin) (ts : List TypeId) (args : List V) : Option (V × St) :=
  match b, ts, args with
  | .len, t :: _, x :: _ =>
    match P.underlying t, x with
    | some .string, .str s => some (.int .i64 s.size, σ)
    | some (.array n _), _ => some (.int .i64 n, σ)
    | some (.pointer a), _ => match P.underlying a with
      | some (.array n _) => some (.int .i64 n, σ)
      | _ => none
    | some (.slice _), .sl _ xs => some (.int .i64 xs.length, σ)
    | some (.slice _), .nilsl _ => some (.int .i64 0, σ)
    | some (.slice _), .msl _ _ _ n _ => some (.int .i64 n, σ)
    | some (.map _ _), x => (mapOf σ x).map fun es => (.int .i64 es.length, σ)
    | _, _ => none
  | .append, t :: t' :: _, s :: x :: _ =>
    match P.underlying t, P.underlying t' with
    | some (.slice _), some (.int _) => none
    | some (.slice e), some _ =>
      match viewS P σ x with
      | some ys => appendV P own e σ s ys
      | none => none
    | _, _ => none
  | .copy, t :: _, d :: s :: _ =>
    match P.underlying t, d, viewS P σ s with
    | some (.slice e), .msl e' b o n _, some ys =>
      if e' = e ∧ (ys.all fun y => (vcells y).length == tsize P e) = true ∧ 0 < tsize P e then
        (wrCells σ b o ((ys.take (Nat.min ys.length n)).flatMap vcells)).map fun σ' => (.int .i64 (Nat.min ys.length n), σ')
      else none
    | _, _, _ => none
  | .cap, t :: _, x :: _ =>
    match P.underlying t, x with
    | some (.slice _), .msl _ _ _ _ (some c) => some (.int .i64 c, σ)
    | some (.slice _), .sl .full xs => some (.int .i64 xs.length, σ)
    | some (.slice _), .nilsl _ => some (.int .i64 0, σ)
    | _, _ => none
  | .min, _, x :: rest => (minmax false x rest).map fun v => (v, σ)
  | .max, _, x :: rest => (minmax true x rest).map fun v => (v, σ)
  | _, _, _ => none

def allocV (P : Program) (σ : St) (e : TypeId) : Option (V × St) :=
  match zeroOf P e, P.underlying e with
  | some (.nilsl none), some (.slice e') => some (.ptr (σ.length + 1) 0, σ ++ [.tok e' 0] ++ [.cells e [.nilsl (some σ.length)]])
  | some z, _ => some (.ptr σ.length 0, σ ++ [.cells e (vcells z)])
  | none, _ => none

def evalP (fr : Fr) : List (Nat × Operand) → Option (List (Nat × V))
  | [] => some []
  | (i, x) :: xs =>
    match evalO fr x, evalP fr xs with
    | some v, some vs => some ((i, v) :: vs)
    | _, _ => none

def evalM (fr : Fr) : Option Operand → Option (Option V)
  | none => some none
  | some x => (evalO fr x).map some

/-- An operation that calls no function of the program. -/
def opV (P : Program) (own : Bool) (fr : Fr) (σ : St) : Op → Option (V × St)
  | .move x | .assign x => (evalO fr x).map fun v => (v, σ)
  | .pick c a b =>
    match evalO fr c with
    | some (.bool t) => (if t then evalO fr a else evalO fr b).map fun v => (v, σ)
    | _ => none
  | .alloc e => allocV P σ e
  | .box e x => (evalO fr x).map fun v => (.ptr σ.length 0, σ ++ [.cells e (vcells v)])
  | .build t ps => ((evalP fr ps.toList).bind (buildV P t)).map fun v => (v, σ)
  | .buildSlice t n ps => (evalP fr ps.toList).bind (buildSliceV P own t σ n)
  | .load t a => ((evalO fr a).bind (loadV P σ t)).map fun v => (v, σ)
  | .store t a x =>
    match evalO fr a, evalO fr x with
    | some a, some v => (storeV P σ t a v).map fun σ' => (V.undef, σ')
    | _, _ => none
  | .nilCheck x =>
    match evalO fr x with
    | some (.ptr b o) => some (.ptr b o, σ)
    | some (.rptr cs) => some (.rptr cs, σ)
    | some (.func (.func f) a c) => some (.func (.func f) a c, σ)
    | some (.yield l) => some (.yield l, σ)
    | _ => none
  | .binOp op t x y _ =>
    match evalO fr x, evalO fr y with
    | some a, some b => (binV P op t x y a b).map fun v => (v, σ)
    | _, _ => none
  | .unOp op _ x => ((evalO fr x).bind (unV op)).map fun v => (v, σ)
  | .convert s d x => (evalO fr x).bind (convV P own σ s d)
  | .sliceToArrayPointer t x => ((evalO fr x).bind (arrPtrV P t)).map fun v => (v, σ)
  | .makeInterface t x =>
    match P.underlying t with
    | some (.interface _) | none => none
    | _ => (evalO fr x).map fun v => (.iface t v, σ)
  | .makeFunc (.func f) first cap =>
    match evalL fr first.toList, evalL fr cap.toList with
    | some a, some c => some (.func (.func f) a c, σ)
    | _, _ => none
  | .makeMap _ none => some (.map σ.length, σ ++ [.map []])
  | .makeSlice t l c =>
    match evalO fr l, evalO fr c with
    | some (.int .i64 l), some (.int .i64 c) => makeV P own t σ l c
    | _, _ => none
  | .slice t x lo hi mx =>
    match evalO fr x, evalM fr lo, evalM fr hi, evalM fr mx with
    | some x, some lo, some hi, some mx => (sliceOf P t x lo hi mx).map fun v => (v, σ)
    | _, _, _, _ => none
  | .fieldAddr s x f => ((evalO fr x).bind fun a => fieldAddrV P s a f).map fun v => (v, σ)
  | .field s x f => ((evalO fr x).bind fun a => fieldV P s a f).map fun v => (v, σ)
  | .indexAddr t x i =>
    match evalO fr x, evalO fr i with
    | some x, some i => (indexAddrV P t x i).map fun v => (v, σ)
    | _, _ => none
  | .index t x i =>
    match evalO fr x, evalO fr i with
    | some x, some i => (indexV P t x i).map fun v => (v, σ)
    | _, _ => none
  | .lookup t m k ok =>
    match evalO fr m, evalO fr k with
    | some m, some k => (lookupV P σ t m k ok).map fun v => (v, σ)
    | _, _ => none
  | .mapUpdate t m k x | .insert t m k x =>
    match evalO fr m, evalO fr k, evalO fr x with
    | some m, some k, some v => (updateV P σ t m k v).map fun σ' => (V.undef, σ')
    | _, _, _ => none
  | .range t x =>
    match P.underlying t, evalO fr x with
    | some .string, some (.str s) => some (.ptr σ.length 0, σ ++ [.siter s 0])
    | _, _ => none
  | .next x true =>
    match evalO fr x with
    | some (.ptr r 0) =>
      match σ[r]? with
      | some (.siter s pos) =>
        if pos < s.size then
          some (.tup [.bool true, .int .i64 pos, .int .i32 (Utf8.decode s pos).1], σ.set r (.siter s (pos + (Utf8.decode s pos).2)))
        else some (.tup [.bool false], σ)
      | _ => none
    | _ => none
  | .extract x i =>
    match evalO fr x with
    | some (.tup vs) => (vs[i]?).map fun v => (v, σ)
    | _ => none
  | .call { callee := .builtin b, args, argTypes } => (evalL fr args.toList).bind (builtinV P own σ b argTypes.toList)
  | _ => none

/-- Does an operation go ahead. -/
def wantedV (ops : Array Oper) (o : Oper) (fr : Fr) : Bool :=
  match o.guard with
  | none => true
  | some (j, want) =>
    match ((ops[j]?).bind (·.dst)).bind (fr[·]?) with
    | some (.bool b) => b == want
    | _ => false

/-! ### What a call hands back -/
def cleanTk (n : Nat) : Tk → Bool
  | .tok t => decide (t < n)
  | _ => true

/-- Nothing of a store from n on is meant. -/
def clean (n : Nat) : V → Bool
  | .agg cs => cleanL n cs
  | .tup cs => cleanL n cs
  | .ptr b _ => b < n
  | .rptr cs => cleanL n cs
  | .sl tk xs => cleanTk n tk && cleanL n xs
  | .msl _ b _ _ _ => b < n
  | .map b => b < n
  | .func _ a c => cleanL n a && cleanL n c
  | .yield l => l < n
  | .iface _ v => clean n v
  | .bool _ | .int _ _ | .str _ | .nilptr | .nilsl _ | .nilmap | .nilfunc | .nilif => true
where
  cleanL (n : Nat) : List V → Bool
    | [] => true
    | v :: vs => clean n v && cleanL n vs

def freezeTk (n : Nat) : Tk → Tk
  | .tok t => if t < n then .tok t else .sealed
  | .res t => if t < n then .res t else .full
  | tk => tk

/-- A value for whoever can only read it: its own rows are sealed. -/
def freeze (P : Program) (n : Nat) (σ : St) : Nat → V → Option V
  | d, .agg cs => (frL d cs).map .agg
  | d, .tup cs => (frL d cs).map .tup
  | _, .ptr b o => if b < n then some (.ptr b o) else none
  | d, .rptr cs => (frL d cs).map .rptr
  | d, .sl tk xs => (frL d xs).map (.sl (freezeTk n tk))
  | 0, .msl e b o m c => if b < n then some (.msl e b o m c) else none
  | d + 1, .msl e b o m c =>
    if b < n then some (.msl e b o m c) else
    match viewS P σ (.msl e b o m c) with
    | some xs => if tsize P e = 0 then none else (frL d xs).map (.sl .sealed)
    | none => none
  | _, .nilsl t => some (.nilsl (t.filter fun t => decide (t < n)))
  | _, .map b => if b < n then some (.map b) else none
  | d, .func f a c =>
    match frL d a, frL d c with
    | some a, some c => some (.func f a c)
    | _, _ => none
  | _, .yield l => if l < n then some (.yield l) else none
  | d, .iface t v => (freeze P n σ d v).map (.iface t)
  | _, .bool b => some (.bool b)
  | _, .int k m => some (.int k m)
  | _, .str s => some (.str s)
  | _, .nilptr => some .nilptr
  | _, .nilmap => some .nilmap
  | _, .nilfunc => some .nilfunc
  | _, .nilif => some .nilif
where
  frL (d : Nat) : List V → Option (List V)
    | [] => some []
    | v :: vs =>
      match freeze P n σ d v, frL d vs with
      | some v, some vs => some (v :: vs)
      | _, _ => none

end Go.Ev

namespace Go.Ev

def cleanObj (n : Nat) : AObj → Prop
  | .cells _ cs => ∀ v ∈ cs, clean n v = true
  | .tok _ _ => True
  | .map es => ∀ e ∈ es, clean n e.1 = true ∧ clean n e.2 = true
  | .loop l => ∀ v ∈ l.tmps, clean n v = true
  | .siter _ _ => True
  | .dead => True

/-- What a call was given of the store is as it was, or means nothing that is new. -/
def OldOK (σ σ' : St) : Prop := ∀ b o, b < σ.length → σ'[b]? = some o → σ[b]? = some o ∨ (cleanObj σ.length o ∧ ∀ r, o = .loop r → ∃ r0, σ[b]? = some (.loop r0))

open Classical in
/-- How a call ends: what it hands back is read-only, and what it made is forgotten. -/
noncomputable def fin (P : Program) (raw : Bool) (σ σ' : St) (v : V) : V × St :=
  if raw = false ∧ OldOK σ σ' then
    match freeze P σ.length σ' 3 v with
    | some v' => (v', σ'.take σ.length)
    | none => (v, σ')
  else (v, σ')

inductive Ex where
  | normal
  | exit (id : Nat)
  | ret

inductive Task where
  | code (f : FuncId) (m : Bool) (rd : Option Nat) (c : Code) (fr : Fr)
  | ops (f : FuncId) (m : Bool) (os : Array Oper) (l : List Nat) (fr : Fr)
  | app (m : Bool) (fv : V) (args : List V)

inductive Out where
  | code (e : Ex) (fr : Fr)
  | val (v : V)

def resultV (P : Program) (fr : Fr) (σ : St) : ResultVar → Option V
  | .tmp t => some (get fr t)
  | .cell a t => loadV P σ t (get fr a)

def resultsL (P : Program) (fr : Fr) (σ : St) : List ResultVar → Option (List V)
  | [] => some []
  | r :: rs =>
    match resultV P fr σ r, resultsL P fr σ rs with
    | some v, some vs => some (v :: vs)
    | _, _ => none

def packV : List V → V
  | [v] => v
  | vs => .tup vs

def resultsV (P : Program) (fn : Func) (fr : Fr) (σ : St) : Option V := (resultsL P fr σ fn.results.toList).map packV

def setParams (fr : Fr) : List Tmp → List V → Fr
  | t :: ts, v :: vs => setParams (fr.set t v) ts vs
  | _, _ => fr

def jumpOf : Ex → Option Code
  | .normal => none
  | .exit id => some (.exit id)
  | .ret => some .ret

def exOf : Option Code → Option Ex
  | none => some .normal
  | some (.exit id) => some (.exit id)
  | some .ret => some .ret
  | _ => none

def exIn (id : Nat) : Ex → Ex
  | .exit i => if i = id then .normal else .exit i
  | e => e

open Classical in
/-- The store behind a loop over an iterator: the loop's record is forgotten. -/
noncomputable def dropLoop (σ σ' : St) : St := if OldOK σ σ' then σ'.take σ.length else σ'

/-- A call leaves no record of a loop of its own. -/
def NoNewLoops (σ σ' : St) : Prop := ∀ (b : Nat) r, σ'[b]? = some (.loop r) → ∃ r0, σ[b]? = some (.loop r0)

/-- An empty slice with a row kept for it. -/
def resv (n : Nat) : V → Option V
  | .nilsl none => some (.nilsl (some n))
  | .sl .full [] => some (.sl (.res n) [])
  | _ => none

inductive Run (C : Cfg) : Task → St → Out → St → Prop where
  | skip {f m rd fr σ} : Run C (.code f m rd .skip fr) σ (.code .normal fr) σ
  | label {f m rd l fr σ} : Run C (.code f m rd (.label l) fr) σ (.code .normal fr) σ
  | region {f m rd id os fr fr' σ σ'} : Run C (.ops f m os (List.range os.size) fr) σ (.code .normal fr') σ' → Run C (.code f m rd (.region id os false) fr) σ (.code .normal fr') σ'
  | regionD {f m rd id os fr fr' σ σ'} : (∀ t, Run C (.ops f m os (Region.schedule (C.P.follows .mixedOrders) os t) fr) σ (.code .normal fr') σ') →
      Run C (.code f m rd (.region id os true) fr) σ (.code .normal fr') σ'
  | seqN {f m rd a b fr fr' σ σ' o σ''} : Run C (.code f m rd a fr) σ (.code .normal fr') σ' → Run C (.code f m rd b fr') σ' o σ'' → Run C (.code f m rd (.seq a b) fr) σ o σ''
  | seqX {f m rd a b fr fr' σ σ' e} : Run C (.code f m rd a fr) σ (.code e fr') σ' → e ≠ .normal → Run C (.code f m rd (.seq a b) fr) σ (.code e fr') σ'
  | cond {f m rd c x y fr σ o σ' t} : evalO fr c = some (.bool t) → Run C (.code f m rd (if t then x else y) fr) σ o σ' → Run C (.code f m rd (.cond c x y) fr) σ o σ'
  | block {f m rd id c fr σ e fr' σ'} : Run C (.code f m rd c fr) σ (.code e fr') σ' → Run C (.code f m rd (.block id c) fr) σ (.code (exIn id e) fr') σ'
  | loopN {f m rd c fr σ fr' σ' o σ''} : Run C (.code f m rd c fr) σ (.code .normal fr') σ' → Run C (.code f m rd (.loop c) fr') σ' o σ'' → Run C (.code f m rd (.loop c) fr) σ o σ''
  | loopX {f m rd c fr σ fr' σ' e} : Run C (.code f m rd c fr) σ (.code e fr') σ' → e ≠ .normal → Run C (.code f m rd (.loop c) fr) σ (.code e fr') σ'
  | exit {f m rd id fr σ} : Run C (.code f m rd (.exit id) fr) σ (.code (.exit id) fr) σ
  | ret {f m rd fr σ} : Run C (.code f m rd .ret fr) σ (.code .ret fr) σ
  | rangeFunc {f m rd x ps assign body fr σ fv v σ' r e} : evalO fr x = some fv → (∀ l, rd = some l → ∃ r0, σ[l]? = some (.loop r0)) →
      Run C (.app m fv [.yield σ.length]) (σ ++ [.loop { state := .ready, pending := none, fn := f, raw := m, tmps := fr, params := ps, assign := assign, body := body }]) (.val v) σ' →
      σ'[σ.length]? = some (.loop r) → r.state ≠ .busy → exOf r.pending = some e → NoNewLoops σ (dropLoop σ (σ'.set σ.length .dead)) →
      Run C (.code f m rd (.rangeFunc x ps assign body) fr) σ (.code e fr) (dropLoop σ (σ'.set σ.length .dead))
  -- the operations of a region, in an order
  | nil {f m os fr σ} : Run C (.ops f m os [] fr) σ (.code .normal fr) σ
  | none {f m os i l fr σ o σ'} : os[i]? = none → Run C (.ops f m os l fr) σ o σ' → Run C (.ops f m os (i :: l) fr) σ o σ'
  | idle {f m os i l fr σ o σ' x} : os[i]? = some x → wantedV os x fr = false → Run C (.ops f m os l (put fr x.dst V.undef)) σ o σ' → Run C (.ops f m os (i :: l) fr) σ o σ'
  | op {f m os i l fr σ o σ' σ'' x v} : os[i]? = some x → wantedV os x fr = true → opV C.P (C.own f m (x.dst.getD 0)) fr σ x.op = some (v, σ') →
      Run C (.ops f m os l (put fr x.dst v)) σ' o σ'' → Run C (.ops f m os (i :: l) fr) σ o σ''
  | call {f m os i l fr σ o σ' σ'' x v fx args ts fv vs} : os[i]? = some x → wantedV os x fr = true → x.op = .call { callee := .value fx, args := args, argTypes := ts } →
      evalO fr fx = some fv → evalL fr args.toList = some vs → Run C (.app (C.raw f m (x.dst.getD 0)) fv vs) σ (.val v) σ' →
      Run C (.ops f m os l (put fr x.dst v)) σ' o σ'' → Run C (.ops f m os (i :: l) fr) σ o σ''
  /-- A row is kept for an empty slice. -/
  | ghost {f m os l fr σ o σ' d e v} : resv σ.length (get fr d) = some v → Run C (.ops f m os l (fr.set d v)) (σ ++ [.tok e 0]) o σ' → Run C (.ops f m os l fr) σ o σ'
  /-- A row is kept for an empty slice within a value. -/
  | ghostA {f m os l fr σ o σ' d e j cs v0 v} : get fr d = .agg cs → cs[j]? = some v0 → resv σ.length v0 = some v → Run C (.ops f m os l (fr.set d (.agg (cs.set j v)))) (σ ++ [.tok e 0]) o σ' → Run C (.ops f m os l fr) σ o σ'
  -- calls
  | fn {m g first cap args fn c σ e fr σ' v} : C.isPrim g = false → C.P.funcs[g]? = some fn → fn.body = some c → (fn.name == "runtime.NumGoroutine") = false →
      Run C (.code g m none c ((first ++ args ++ cap) ++ List.replicate (fn.ntmps - (first ++ args ++ cap).length) V.undef)) σ (.code e fr) σ' →
      (e = .normal ∨ e = .ret) → resultsV C.P fn fr σ' = some v → NoNewLoops σ (fin C.P m σ σ' v).2 →
      Run C (.app m (.func (.func g) first cap) args) σ (.val (fin C.P m σ σ' v).1) (fin C.P m σ σ' v).2
  | prim {m g first cap args σ v σ'} : C.isPrim g = true → C.prim g (first ++ args ++ cap) σ = some (v, σ') →
      Run C (.app m (.func (.func g) first cap) args) σ (.val v) σ'
  | yield {m l args σ r fr σ1 r1 fr' e σ2 r2} : σ[l]? = some (.loop r) → args.length = r.params.size →
      Run C (.code r.fn r.raw (some l) r.assign (setParams r.tmps r.params.toList args)) σ (.code .normal fr) σ1 →
      σ1[l]? = some (.loop r1) → r1.state = .ready →
      Run C (.code r.fn r.raw (some l) r.body fr) (σ1.set l (.loop { r1 with state := .busy })) (.code e fr') σ2 →
      σ2[l]? = some (.loop r2) →
      Run C (.app m (.yield l) args) σ (.val (.bool (jumpOf e).isNone))
        (σ2.set l (.loop { r2 with state := (if (jumpOf e).isNone then .ready else .done), pending := jumpOf e }))

end Go.Ev

namespace Go.Ev
open Go.RowKit

/-- Where what is abstract lies: cells that never change; the block of an object; the block and the capacity of a row when it has so many elements; blocks for deferred calls. -/
structure Mm where
  rom : Nat → Nat → Option Value
  mu : Nat → Option Nat
  tk : Nat → Nat → Option (Nat × Nat)
  res : Nat → Prop
  /-- Where a loop's deferred calls are. -/
  ld : Nat → Option Nat

structure Mm.LE (G H : Mm) : Prop where
  rom : ∀ g o v, G.rom g o = some v → H.rom g o = some v
  mu : ∀ b g, G.mu b = some g → H.mu b = some g
  tk : ∀ t n p, G.tk t n = some p → H.tk t n = some p
  res : ∀ r, G.res r → H.res r
  ld : ∀ b d, G.ld b = some d → H.ld b = some d

theorem Mm.LE.refl (G : Mm) : G.LE G := ⟨fun _ _ _ h => h, fun _ _ h => h, fun _ _ _ h => h, fun _ h => h, fun _ _ h => h⟩
theorem Mm.LE.trans {G H K : Mm} (a : G.LE H) (b : H.LE K) : G.LE K :=
  ⟨fun _ _ _ h => b.rom _ _ _ (a.rom _ _ _ h), fun _ _ h => b.mu _ _ (a.mu _ _ h), fun _ _ _ h => b.tk _ _ _ (a.tk _ _ _ h), fun _ h => b.res _ (a.res _ h), fun _ _ h => b.ld _ _ (a.ld _ _ h)⟩

def TkOK (G : Mm) (tk : Tk) (g o n cap : Nat) : Prop :=
  match tk with
  | .sealed => True
  | .full => cap = n
  | .tok t => o = 0 ∧ G.tk t n = some (g, cap)
  | .res _ => cap = n

inductive VR (G : Mm) : Value → V → Prop where
  | bool (b : Bool) : VR G (.bool b) (.bool b)
  | int (k : IntKind) (n : Int) : VR G (.int k n) (.int k n)
  | str (s : ByteArray) : VR G (.string s) (.str s)
  | agg (cs : Array Value) (ds : List V) (hl : cs.toList.length = ds.length) (h : ∀ (i : Nat) a b, cs.toList[i]? = some a → ds[i]? = some b → VR G a b) : VR G (.agg cs) (.agg ds)
  | tup (cs : Array Value) (ds : List V) (hl : cs.toList.length = ds.length) (h : ∀ (i : Nat) a b, cs.toList[i]? = some a → ds[i]? = some b → VR G a b) : VR G (.tuple cs) (.tup ds)
  | ptr (g b o : Nat) (h : G.mu b = some g) : VR G (.pointer (some ⟨g, o, none⟩)) (.ptr b o)
  | rptr (g o : Nat) (cs : List V) (f : Nat → Value) (h : ∀ (j : Nat) b, cs[j]? = some b → G.rom g (o + j) = some (f j)) (hv : ∀ (j : Nat) b, cs[j]? = some b → VR G (f j) b) :
      VR G (.pointer (some ⟨g, o, none⟩)) (.rptr cs)
  | nilptr : VR G (.pointer none) .nilptr
  | sl (g o cap k : Nat) (tk : Tk) (xs : List V) (f : Nat → Nat → Value) (hk : ∀ x ∈ xs, (vcells x).length = k)
      (h : ∀ (i : Nat) x (j : Nat) b, xs[i]? = some x → (vcells x)[j]? = some b → G.rom g (o + i * k + j) = some (f i j))
      (hv : ∀ (i : Nat) x (j : Nat) b, xs[i]? = some x → (vcells x)[j]? = some b → VR G (f i j) b) (hc : xs.length ≤ cap) (ht : TkOK G tk g o xs.length cap) :
      VR G (.slice (some ⟨g, o, none⟩) xs.length cap) (.sl tk xs)
  | msl (e : TypeId) (g b o n cap : Nat) (c : Option Nat) (h : G.mu b = some g) (hc : ∀ c', c = some c' → cap = c') (hn : n ≤ cap) (ht : c = none → G.tk b n = some (g, cap)) :
      VR G (.slice (some ⟨g, o, none⟩) n cap) (.msl e b o n c)
  | nilsl (t : Option Nat) : VR G (.slice none 0 0) (.nilsl t)
  | map (g b : Nat) (h : G.mu b = some g) : VR G (.map (some g)) (.map b)
  | nilmap : VR G (.map none) .nilmap
  | func (fn : Fn) (a c : Array Value) (a' c' : List V) (hf : ∀ l, fn ≠ .yield l) (hl : a.toList.length = a'.length) (h : ∀ (i : Nat) x y, a.toList[i]? = some x → a'[i]? = some y → VR G x y)
      (hl' : c.toList.length = c'.length) (h' : ∀ (i : Nat) x y, c.toList[i]? = some x → c'[i]? = some y → VR G x y) : VR G (.func fn a c) (.func fn a' c')
  | yield (g l : Nat) (h : G.mu l = some g) : VR G (.func (.yield g) #[] #[]) (.yield l)
  | nilfunc : VR G .nilFunc .nilfunc
  | iface (t : TypeId) (x : Value) (v : V) (h : VR G x v) : VR G (.iface t x) (.iface t v)
  | nilif : VR G .nilIface .nilif

/-- Lists, one by one. -/
structure LR (G : Mm) (as : List Value) (bs : List V) : Prop where
  len : as.length = bs.length
  at_ : ∀ (i : Nat) a b, as[i]? = some a → bs[i]? = some b → VR G a b

theorem TkOK.mono {G H : Mm} (hle : G.LE H) {tk : Tk} {g o n cap : Nat} (h : TkOK G tk g o n cap) : TkOK H tk g o n cap := by
  cases tk with
  | sealed => trivial
  | full => exact h
  | tok t => exact ⟨h.1, hle.tk _ _ _ h.2⟩
  | res t => exact h

theorem VR.mono {G H : Mm} (hle : G.LE H) {a : Value} {v : V} (h : VR G a v) : VR H a v := by
  induction h with
  | bool b => exact .bool b
  | int k n => exact .int k n
  | str s => exact .str s
  | agg cs ds hl _ ih => exact .agg cs ds hl ih
  | tup cs ds hl _ ih => exact .tup cs ds hl ih
  | ptr g b o h => exact .ptr g b o (hle.mu _ _ h)
  | rptr g o cs f h _ ih => exact .rptr g o cs f (fun j b hb => hle.rom _ _ _ (h j b hb)) ih
  | nilptr => exact .nilptr
  | sl g o cap k tk xs f hk h _ hc ht ih => exact .sl g o cap k tk xs f hk (fun i x j b hx hb => hle.rom _ _ _ (h i x j b hx hb)) ih hc (ht.mono hle)
  | msl e g b o n cap c h hc hn ht => exact .msl e g b o n cap c (hle.mu _ _ h) hc hn (fun e => hle.tk _ _ _ (ht e))
  | nilsl t => exact .nilsl t
  | map g b h => exact .map g b (hle.mu _ _ h)
  | nilmap => exact .nilmap
  | func fn a c a' c' hf hl _ hl' _ ih ih' => exact .func fn a c a' c' hf hl ih hl' ih'
  | yield g l h => exact .yield g l (hle.mu _ _ h)
  | nilfunc => exact .nilfunc
  | iface t x v _ ih => exact .iface t x v ih
  | nilif => exact .nilif

namespace LR
variable {G H : Mm}
theorem mono (hle : G.LE H) {as : List Value} {bs : List V} (h : LR G as bs) : LR H as bs := ⟨h.len, fun i a b ha hb => (h.at_ i a b ha hb).mono hle⟩
theorem nil : LR G [] [] := ⟨rfl, fun i a b ha _ => by simp at ha⟩
theorem cons {a : Value} {b : V} {as : List Value} {bs : List V} (h : VR G a b) (hs : LR G as bs) : LR G (a :: as) (b :: bs) :=
  ⟨by simp [hs.len], fun i x y hx hy => by
    cases i with
    | zero => simp at hx hy; subst hx; subst hy; exact h
    | succ i => exact hs.at_ i x y (by simpa using hx) (by simpa using hy)⟩
theorem one {a : Value} {b : V} (h : VR G a b) : LR G [a] [b] := .cons h .nil
theorem append {as as' : List Value} {bs bs' : List V} (h : LR G as bs) (h' : LR G as' bs') : LR G (as ++ as') (bs ++ bs') :=
  ⟨by simp [h.len, h'.len], fun i x y hx hy => by
    rcases Nat.lt_or_ge i as.length with hi | hi
    · rw [List.getElem?_append_left hi] at hx
      rw [List.getElem?_append_left (h.len ▸ hi)] at hy
      exact h.at_ _ _ _ hx hy
    · rw [List.getElem?_append_right hi] at hx
      rw [List.getElem?_append_right (h.len ▸ hi), ← h.len] at hy
      exact h'.at_ _ _ _ hx hy⟩
theorem take {as : List Value} {bs : List V} (h : LR G as bs) (n : Nat) : LR G (as.take n) (bs.take n) :=
  ⟨by simp [h.len], fun i x y hx hy => by
    rw [List.getElem?_take] at hx hy
    split at hx
    · rw [if_pos (by assumption)] at hy
      exact h.at_ _ _ _ hx hy
    · simp at hx⟩
theorem drop {as : List Value} {bs : List V} (h : LR G as bs) (n : Nat) : LR G (as.drop n) (bs.drop n) :=
  ⟨by simp [h.len], fun i x y hx hy => by
    rw [List.getElem?_drop] at hx hy
    exact h.at_ _ _ _ hx hy⟩
theorem set {as : List Value} {bs : List V} (h : LR G as bs) (n : Nat) {a : Value} {b : V} (hv : VR G a b) : LR G (as.set n a) (bs.set n b) :=
  ⟨by simp [h.len], fun i x y hx hy => by
    rw [List.getElem?_set] at hx hy
    by_cases e : n = i
    · subst e
      by_cases hi : n < as.length
      · rw [if_pos rfl, if_pos hi] at hx
        rw [if_pos rfl, if_pos (h.len ▸ hi)] at hy
        cases hx; cases hy
        exact hv
      · rw [if_pos rfl, if_neg hi] at hx
        simp at hx
    · rw [if_neg e] at hx hy
      exact h.at_ _ _ _ hx hy⟩
theorem replicate (n : Nat) {a : Value} {b : V} (hv : VR G a b) : LR G (List.replicate n a) (List.replicate n b) := by
  induction n with
  | zero => exact nil
  | succ n ih => exact cons hv ih
theorem head {a : Value} {b : V} {as : List Value} {bs : List V} (h : LR G (a :: as) (b :: bs)) : VR G a b := h.at_ 0 _ _ rfl rfl
theorem tail {a : Value} {b : V} {as : List Value} {bs : List V} (h : LR G (a :: as) (b :: bs)) : LR G as bs :=
  ⟨by have := h.len; simpa using this, fun i x y hx hy => h.at_ (i + 1) x y (by simpa using hx) (by simpa using hy)⟩
theorem getD {as : List Value} {bs : List V} (h : LR G as bs) (i : Nat) {d : Value} {d' : V} (hd : VR G d d') : VR G (as.getD i d) (bs.getD i d') := by
  rw [List.getD_eq_getElem?_getD, List.getD_eq_getElem?_getD]
  rcases Nat.lt_or_ge i as.length with hi | hi
  · rw [List.getElem?_eq_getElem hi, List.getElem?_eq_getElem (h.len ▸ hi)]
    exact h.at_ i _ _ (List.getElem?_eq_getElem hi) (List.getElem?_eq_getElem (h.len ▸ hi))
  · rw [List.getElem?_eq_none hi, List.getElem?_eq_none (h.len ▸ hi)]
    exact hd
/-- What is there on one side is there on the other. -/
theorem get? {as : List Value} {bs : List V} (h : LR G as bs) {i : Nat} {b : V} (hb : bs[i]? = some b) : ∃ a, as[i]? = some a ∧ VR G a b := by
  have hi : i < as.length := by rw [h.len]; exact (List.getElem?_eq_some_iff.1 hb).1
  exact ⟨as[i], List.getElem?_eq_getElem hi, h.at_ i _ _ (List.getElem?_eq_getElem hi) hb⟩
theorem get?' {as : List Value} {bs : List V} (h : LR G as bs) {i : Nat} {a : Value} (ha : as[i]? = some a) : ∃ b, bs[i]? = some b ∧ VR G a b := by
  have hi : i < bs.length := by rw [← h.len]; exact (List.getElem?_eq_some_iff.1 ha).1
  exact ⟨bs[i], List.getElem?_eq_getElem hi, h.at_ i _ _ ha (List.getElem?_eq_getElem hi)⟩
end LR

theorem VR.undef {G : Mm} : VR G Go.undef V.undef := .tup #[] [] rfl (by simp)

/-- A value's cells. -/
theorem VR.cells {G : Mm} {a : Value} {v : V} (h : VR G a v) : LR G a.cells.toList (vcells v) := by
  cases h with
  | agg cs ds hl h => exact ⟨hl, h⟩
  | bool b => exact LR.one (.bool b)
  | int k n => exact LR.one (.int k n)
  | str s => exact LR.one (.str s)
  | tup cs ds hl h => exact LR.one (.tup cs ds hl h)
  | ptr g b o h => exact LR.one (.ptr g b o h)
  | rptr g o cs f h hv => exact LR.one (.rptr g o cs f h hv)
  | nilptr => exact LR.one .nilptr
  | sl g o cap k tk xs f hk h hv hc ht => exact LR.one (.sl g o cap k tk xs f hk h hv hc ht)
  | msl e g b o n cap c h hc hn ht => exact LR.one (.msl e g b o n cap c h hc hn ht)
  | nilsl t => exact LR.one (.nilsl t)
  | map g b h => exact LR.one (.map g b h)
  | nilmap => exact LR.one .nilmap
  | func fn a c a' c' hf hl h hl' h' => exact LR.one (.func fn a c a' c' hf hl h hl' h')
  | yield g l h => exact LR.one (.yield g l h)
  | nilfunc => exact LR.one .nilfunc
  | iface t x v h => exact LR.one (.iface t x v h)
  | nilif => exact LR.one .nilif

/-! ### The store -/
def CellsR (P : Program) (G : Mm) (b : Nat) (e : TypeId) (cs : List V) (g : Nat) : Option Obj → Prop
  | some (.cells c e' fz) => e' = e ∧ cs.length ≤ c.size ∧ LR G (c.toList.take cs.length) cs ∧ (∀ i, i < c.size → (fz.1 ≤ i && i < fz.2) = false) ∧
      (∀ o, G.rom g o = none) ∧ (∀ n g' cap, G.tk b n = some (g', cap) → g' = g ∧ cap * tsize P e ≤ c.size)
  | _ => False

def TokR (P : Program) (G : Mm) (e : TypeId) (n : Nat) (g cap : Nat) : Option Obj → Prop
  | some (.cells c e' fz) => e' = e ∧ n ≤ cap ∧ cap * tsize P e ≤ c.size ∧ (∀ i, n * tsize P e ≤ i → G.rom g i = none) ∧ (∀ i, i < c.size → (fz.1 ≤ i && i < fz.2) = false)
  | _ => False

def MapR (G : Mm) (es : List (V × V)) : Option Obj → Prop
  | some (.map ces _) => LR G (ces.toList.map (·.key)) (es.map (·.1)) ∧ LR G (ces.toList.map (·.val)) (es.map (·.2))
  | _ => False

def LoopR (G : Mm) (b : Nat) (r : ALoop) : Option Obj → Prop
  | some (.loop l) => l.state = r.state ∧ l.pending = r.pending ∧ l.fn = r.fn ∧ LR G l.tmps.toList r.tmps ∧ l.params = r.params ∧ l.assign = r.assign ∧ l.body = r.body ∧ G.res l.defers ∧ G.ld b = some l.defers
  | _ => False

/-- The block of an object that means something. -/
def Blk (G : Mm) (b : Nat) (o : AObj) (g : Nat) : Prop :=
  match o with
  | .cells .. | .map .. | .loop .. | .siter .. => G.mu b = some g
  | .tok _ n => 0 < n ∧ ∃ cap, G.tk b n = some (g, cap)
  | .dead => False

def ObjR (P : Program) (G : Mm) (w : World) (b : Nat) (o : AObj) : Prop :=
  match o with
  | .cells e cs => ∃ g, G.mu b = some g ∧ CellsR P G b e cs g w.heap[g]?
  | .tok e n => (∀ m p, G.tk b m = some p → m ≤ n) ∧ (n = 0 ∨ ∃ g cap, G.tk b n = some (g, cap) ∧ TokR P G e n g cap w.heap[g]?)
  | .map es => ∃ g, G.mu b = some g ∧ MapR G es w.heap[g]?
  | .loop r => ∃ g, G.mu b = some g ∧ LoopR G b r w.heap[g]?
  | .siter s p => ∃ g, G.mu b = some g ∧ w.heap[g]? = some (.stringIter s p)
  | .dead => True

structure Sim (P : Program) (G : Mm) (base : Nat) (σ : St) (w : World) : Prop where
  rom : ∀ g o v, G.rom g o = some v → w.cell? ⟨g, o, none⟩ = some v
  obj : ∀ b o, σ[b]? = some o → ObjR P G w b o
  mulen : ∀ b g, G.mu b = some g → b < σ.length
  tklen : ∀ t n p, G.tk t n = some p → t < σ.length
  uniq : ∀ b o b' o' g, σ[b]? = some o → σ[b']? = some o' → Blk G b o g → Blk G b' o' g → b = b'
  above : ∀ b o g, σ[b]? = some o → Blk G b o g → base ≤ g
  res : ∀ r, G.res r → w.heap[r]? = some (.deferred (some [])) ∧ base ≤ r
  big : base ≤ w.heap.size

/-- A block that means something is there. -/
theorem Sim.lt {P : Program} {G : Mm} {base : Nat} {σ : St} {w : World} (h : Sim P G base σ w) {b : Nat} {o : AObj} {g : Nat} (ho : σ[b]? = some o) (hg : Blk G b o g) : g < w.heap.size := by
  have hr := h.obj b o ho
  cases o with
  | cells e cs =>
    obtain ⟨g', hm, hc⟩ := hr
    have hg : G.mu b = some g := hg
    have e : g' = g := by rw [hm] at hg; exact Option.some.inj hg
    subst e
    rcases Nat.lt_or_ge g' w.heap.size with hl | hl
    · exact hl
    · rw [Array.getElem?_eq_none hl] at hc; exact hc.elim
  | tok e n =>
    obtain ⟨hn, cap, ht⟩ := hg
    rcases hr.2 with rfl | ⟨g', cap', ht', hc⟩
    · omega
    · rw [ht] at ht'
      cases ht'
      rcases Nat.lt_or_ge g w.heap.size with hl | hl
      · exact hl
      · rw [Array.getElem?_eq_none hl] at hc; exact hc.elim
  | map es =>
    obtain ⟨g', hm, hc⟩ := hr
    have hg : G.mu b = some g := hg
    have e : g' = g := by rw [hm] at hg; exact Option.some.inj hg
    subst e
    rcases Nat.lt_or_ge g' w.heap.size with hl | hl
    · exact hl
    · rw [Array.getElem?_eq_none hl] at hc; exact hc.elim
  | loop r =>
    obtain ⟨g', hm, hc⟩ := hr
    have hg : G.mu b = some g := hg
    have e : g' = g := by rw [hm] at hg; exact Option.some.inj hg
    subst e
    rcases Nat.lt_or_ge g' w.heap.size with hl | hl
    · exact hl
    · rw [Array.getElem?_eq_none hl] at hc; exact hc.elim
  | siter s p =>
    obtain ⟨g', hm, hc⟩ := hr
    have hg : G.mu b = some g := hg
    have e : g' = g := by rw [hm] at hg; exact Option.some.inj hg
    subst e
    rcases Nat.lt_or_ge g' w.heap.size with hl | hl
    · exact hl
    · rw [Array.getElem?_eq_none hl] at hc; cases hc
  | dead => exact hg.elim

/-- An object stands as long as its block does. -/
theorem ObjR.frame {P : Program} {G : Mm} {w w' : World} {b : Nat} {o : AObj} (h : ObjR P G w b o) (hb : ∀ g, Blk G b o g → w'.heap[g]? = w.heap[g]?) : ObjR P G w' b o := by
  cases o with
  | cells e cs => obtain ⟨g, hm, hc⟩ := h; exact ⟨g, hm, by rw [hb g hm]; exact hc⟩
  | tok e n =>
    obtain ⟨hm, h⟩ := h
    refine ⟨hm, ?_⟩
    rcases h with rfl | ⟨g, cap, ht, hc⟩
    · exact .inl rfl
    · rcases Nat.eq_zero_or_pos n with h0 | h0
      · exact .inl h0
      · exact .inr ⟨g, cap, ht, by rw [hb g ⟨h0, cap, ht⟩]; exact hc⟩
  | map es => obtain ⟨g, hm, hc⟩ := h; exact ⟨g, hm, by rw [hb g hm]; exact hc⟩
  | loop r => obtain ⟨g, hm, hc⟩ := h; exact ⟨g, hm, by rw [hb g hm]; exact hc⟩
  | siter s p => obtain ⟨g, hm, hc⟩ := h; exact ⟨g, hm, by rw [hb g hm]; exact hc⟩
  | dead => trivial

/-- A world of the same heap. -/
theorem Sim.heap {P : Program} {G : Mm} {base : Nat} {σ : St} {w w' : World} (h : Sim P G base σ w) (e : w'.heap = w.heap) : Sim P G base σ w' where
  rom g o v hv := by have := h.rom g o v hv; simpa [World.cell?, e] using this
  obj b o ho := (h.obj b o ho).frame fun g _ => by rw [e]
  mulen := h.mulen
  tklen := h.tklen
  uniq := h.uniq
  above := h.above
  res r hr := by rw [e]; exact h.res r hr
  big := by rw [e]; exact h.big

end Go.Ev

namespace Go.Ev
open Go.RowKit

section
variable {P : Program} {G : Mm} {base : Nat} {σ : St} {w : World}

/-! ### Operands -/
theorem VR.ofCell {v : Value} {x : V} (h : ofCell v = some x) : VR G v x := by
  unfold Ev.ofCell at h
  split at h <;> first | (cases h; constructor; done) | skip
  · split at h
    · cases h
      rename_i vs hv
      have : vs = #[] := by simpa using hv
      subst this
      exact VR.undef
    · cases h
  · cases h

theorem LR.ofCells : ∀ {vs : List Value} {xs : List V}, ofCells vs = some xs → LR G vs xs
  | [], xs, h => by simp [Ev.ofCells] at h; subst h; exact .nil
  | v :: vs, xs, h => by
    unfold Ev.ofCells at h
    split at h
    · rename_i a as h1 h2
      cases h
      exact .cons (VR.ofCell h1) (LR.ofCells h2)
    · cases h

theorem VR.ofConst {v : Value} {x : V} (h : ofConst v = some x) : VR G v x := by
  unfold Ev.ofConst at h
  split at h
  · rename_i cs
    cases hg : ofCells cs.toList with
    | none => simp [hg] at h
    | some xs =>
      simp [hg] at h
      subst h
      have := LR.ofCells (G := G) hg
      exact .agg cs xs this.len this.at_
  · exact VR.ofCell h

theorem VR.evalO {a : Act} {fr : Fr} (hf : LR G a.tmps.toList fr) {x : Operand} {v : V} (h : evalO fr x = some v) : VR G (a.eval x) v := by
  cases x with
  | tmp t =>
    simp only [Ev.evalO, Option.some.injEq] at h
    subst h
    have := hf.getD t VR.undef
    simpa [Act.eval, get, List.getD_eq_getElem?_getD, Array.getD_eq_getD_getElem?] using this
  | const c => exact VR.ofConst h
  | global g => cases h
  | func f =>
    simp only [Ev.evalO, Option.some.injEq] at h
    subst h
    exact .func (.func f) #[] #[] [] [] (by simp) rfl (by simp) rfl (by simp)

theorem LR.evalL {a : Act} {fr : Fr} (hf : LR G a.tmps.toList fr) : ∀ {xs : List Operand} {vs : List V}, evalL fr xs = some vs → LR G (xs.map a.eval) vs
  | [], vs, h => by simp [Ev.evalL] at h; subst h; exact .nil
  | x :: xs, vs, h => by
    unfold Ev.evalL at h
    split at h
    · rename_i v vs' h1 h2
      cases h
      exact .cons (VR.evalO hf h1) (LR.evalL hf h2)
    · cases h

/-! ### Types -/
theorem run_isAgg (t : TypeId) {d : TypeDesc} (h : P.underlying t = some d) : (isAgg t).run P w = .ok (isAggT P t) w := by
  unfold isAgg isAggT
  simp only [Sem.run_bind, run_underlying h, Result.andThen_ok, h]
  cases d <;> rfl

theorem run_sizeOf' (t : TypeId) {i : TypeInfo} (h : P.info? t = some i) : (sizeOf t).run P w = .ok (tsize P t) w := by
  simp [sizeOf, typeInfo, h, tsize, Program.cellsOf]

theorem info_of_underlying {t : TypeId} {d : TypeDesc} (h : P.underlying t = some d) : ∃ i, P.info? t = some i := by
  cases hi : P.info? t with
  | some i => exact ⟨i, rfl⟩
  | none => exfalso; revert h; simp [Program.underlying, hi]

/-! ### Reading -/
theorem run_loadCellsFrom (f : Nat → Value) (a : Addr) : ∀ (n i : Nat) (acc : Array Value), (∀ j, i ≤ j → j < i + n → w.cell? (a.add j) = some (f j)) →
    (loadCellsFrom a i n acc).run P w = .ok (acc ++ ((List.range' i n).map f).toArray) w
  | 0, i, acc, _ => by simp [loadCellsFrom]
  | n + 1, i, acc, h => by
    unfold loadCellsFrom
    simp only [Sem.run_bind, run_load, h i (Nat.le_refl _) (by omega), Result.andThen_ok]
    rw [run_loadCellsFrom f a n (i + 1) _ (fun j h1 h2 => h j (by omega) (by omega))]
    simp [List.range'_succ]

theorem run_loadCells (f : Nat → Value) (g o n : Nat) (h : ∀ j, j < n → w.cell? ⟨g, o + j, none⟩ = some (f j)) :
    (loadCells ⟨g, o, none⟩ n).run P w = .ok ((List.range n).map f).toArray w := by
  unfold loadCells
  rw [run_loadCellsFrom f ⟨g, o, none⟩ n 0 #[] (fun j _ hj => by rw [Addr.add_lit]; exact h j (by omega))]
  simp [List.range_eq_range']

theorem run_loadAt (f : Nat → Value) (t : TypeId) (g o : Nat) {d : TypeDesc} (hd : P.underlying t = some d) (h : ∀ j, j < nread P t → w.cell? ⟨g, o + j, none⟩ = some (f j)) :
    (Instr.loadAt t (.pointer (some ⟨g, o, none⟩))).run P w = .ok (if isAggT P t then .agg ((List.range (tsize P t)).map f).toArray else f 0) w := by
  obtain ⟨i, hi⟩ := info_of_underlying hd
  unfold Instr.loadAt Instr.sureAddr loadVar
  simp only [pure_bind, Sem.run_bind, run_isAgg t hd, Result.andThen_ok]
  unfold nread at h
  cases ha : isAggT P t with
  | true =>
    rw [ha] at h
    simp only [if_true] at h
    simp only [if_true, Sem.run_bind, run_sizeOf' t hi, Result.andThen_ok]
    rw [run_loadCells f g o _ h]
    rfl
  | false =>
    rw [ha] at h
    have h0 := h 0 (by simp)
    simp only [Bool.false_eq_true, if_false, run_load]
    rw [Nat.add_zero] at h0
    rw [h0]

/-- A cell of the store's, in the world. -/
theorem Sim.cells (hs : Sim P G base σ w) {b : Nat} {e : TypeId} {cs : List V} (h : σ[b]? = some (.cells e cs)) :
    ∃ g c fz, G.mu b = some g ∧ w.heap[g]? = some (.cells c e fz) ∧ cs.length ≤ c.size ∧ LR G (c.toList.take cs.length) cs ∧ (∀ i, i < c.size → (fz.1 ≤ i && i < fz.2) = false) ∧
      (∀ o, G.rom g o = none) ∧ (∀ n g' cap, G.tk b n = some (g', cap) → g' = g ∧ cap * tsize P e ≤ c.size) := by
  obtain ⟨g, hm, hc⟩ := hs.obj b _ h
  unfold CellsR at hc
  split at hc
  · rename_i c e' fz hh
    obtain ⟨rfl, h1, h2, h3, h4, h5⟩ := hc
    exact ⟨g, c, fz, hm, hh, h1, h2, h3, h4, h5⟩
  · exact hc.elim

theorem cell?_of_heap {g o : Nat} {c : Array Value} {e : TypeId} {fz : Nat × Nat} (h : w.heap[g]? = some (.cells c e fz)) : w.cell? ⟨g, o, none⟩ = c[o]? := by
  simp [World.cell?, h]
theorem frozen?_of_heap {g o : Nat} {c : Array Value} {e : TypeId} {fz : Nat × Nat} (h : w.heap[g]? = some (.cells c e fz)) : w.frozen? ⟨g, o, none⟩ = (fz.1 ≤ o && o < fz.2) := by
  simp [World.frozen?, h]

/-- What is read at an address. -/
theorem Sim.read (hs : Sim P G base σ w) {a : V} {x : Value} (hx : VR G x a) {n : Nat} {cs : List V}
    (h : readN σ n a = some cs) :
    ∃ g o f, x = .pointer (some ⟨g, o, none⟩) ∧ cs.length = n ∧ (∀ j, j < n → w.cell? ⟨g, o + j, none⟩ = some (f j)) ∧ LR G ((List.range n).map f) cs := by
  unfold readN at h
  cases hx with
  | ptr g b o hm =>
    simp only [rdCells] at h
    split at h
    · rename_i e ds hb
      split at h
      · rename_i hle
        cases h
        obtain ⟨g', c, fz, hm', hh, h1, h2, _⟩ := hs.cells hb
        rw [hm] at hm'; cases hm'
        have h2' : LR G ((c.toList.drop o).take n) ((ds.drop o).take n) := by
          have := (h2.drop o).take n
          rw [List.drop_take, List.take_take, Nat.min_eq_left (by omega)] at this
          exact this
        refine ⟨g, o, fun j => c.toList.getD (o + j) Go.undef, rfl, by simp; omega, fun j hj => ?_, ?_⟩
        · rw [cell?_of_heap hh]
          have hj' : o + j < c.size := by omega
          simp [List.getD_eq_getElem?_getD, hj']
        · have e1 : (List.range n).map (fun j => c.toList.getD (o + j) Go.undef) = (c.toList.drop o).take n := by
            apply List.ext_getElem
            · simp; omega
            · intro i h3 h4
              simp at h3
              have hi' : o + i < c.size := by omega
              simp [List.getD_eq_getElem?_getD, hi']
          rw [e1]
          exact h2'
      · cases h
    · cases h
  | rptr g o ds f hr hv =>
    simp only at h
    split at h
    · rename_i hle
      cases h
      refine ⟨g, o, f, rfl, by simp; omega, fun j hj => ?_, ⟨by simp; omega, fun i x y hx hy => ?_⟩⟩
      · exact hs.rom _ _ _ (hr j ds[j] (List.getElem?_eq_getElem (by omega)))
      · rw [List.getElem?_map] at hx
        rw [List.getElem?_take] at hy
        split at hy
        · rename_i hi
          rw [List.getElem?_range (by omega)] at hx
          simp at hx
          subst hx
          exact hv i y hy
        · cases hy
    · cases h
  | _ => cases h

theorem mkV_sound {t : TypeId} {cs : List V} {v : V} (hm : mkV P t cs = some v) (f : Nat → Value) (hl : LR G ((List.range (nread P t)).map f) cs) :
    VR G (if isAggT P t then .agg ((List.range (tsize P t)).map f).toArray else f 0) v := by
  unfold mkV at hm
  unfold nread at hl
  cases ha : isAggT P t with
  | true =>
    rw [ha] at hm hl
    simp only [if_true, Option.some.injEq] at hm hl
    subst hm
    simp only [if_true]
    exact .agg _ _ (by simpa using hl.len) (by simpa using hl.at_)
  | false =>
    rw [ha] at hm hl
    simp only [Bool.false_eq_true, if_false] at hm
    simp only [Bool.false_eq_true, if_false] at hl
    simp only [Bool.false_eq_true, if_false]
    have : (List.range 1).map f = [f 0] := rfl
    rw [this] at hl
    cases cs with
    | nil => simp at hm
    | cons c cs => simp at hm; subst hm; exact hl.head

theorem loadV_sound (hs : Sim P G base σ w) {t : TypeId} {a : V} {x : Value} (hx : VR G x a) {v : V} (h : loadV P σ t a = some v) :
    ∃ v', (Instr.loadAt t x).run P w = .ok v' w ∧ VR G v' v := by
  unfold loadV at h
  split at h
  case isFalse => cases h
  rename_i hkn
  obtain ⟨d, hd⟩ := Option.isSome_iff_exists.1 hkn
  cases h1 : readN σ (nread P t) a with
  | none => simp [h1] at h
  | some cs =>
  have h2 : mkV P t cs = some v := by simpa [h1] using h
  obtain ⟨g, o, f, rfl, hl, hc, hr⟩ := hs.read hx h1
  exact ⟨_, run_loadAt f t g o hd hc, mkV_sound h2 f hr⟩
end
end Go.Ev

set_option linter.unusedSimpArgs false
set_option linter.unusedVariables false
namespace Go.Ev
open Go.RowKit

section
variable {P : Program} {G G' : Mm} {base : Nat} {σ σ' : St} {w w' : World}

/-- An object that stands in a greater map of the memory. -/
theorem ObjR.ext {b : Nat} {o : AObj} (h : ObjR P G w b o) (hle : G.LE G') (hrom : ∀ g o' v, Blk G b o g → G'.rom g o' = some v → G.rom g o' = some v)
    (htk : ∀ n p, G'.tk b n = some p → G.tk b n = some p) : ObjR P G' w b o := by
  cases o with
  | cells e cs =>
    obtain ⟨g, hm, hc⟩ := h
    refine ⟨g, hle.mu _ _ hm, ?_⟩
    unfold CellsR at hc ⊢
    split at hc
    · rename_i c e' fz hh
      obtain ⟨h0, h1, h2, h3, h4, h5⟩ := hc
      refine ⟨h0, h1, h2.mono hle, h3, fun o => ?_, fun n g' cap ht => h5 n g' cap (htk _ _ ht)⟩
      cases hr : G'.rom g o with
      | none => rfl
      | some v => have := hrom g o v hm hr; rw [h4] at this; cases this
    · exact hc.elim
  | tok e n =>
    obtain ⟨hm, h⟩ := h
    refine ⟨fun m p hp => hm m p (htk _ _ hp), ?_⟩
    rcases h with rfl | ⟨g, cap, ht, hc⟩
    · exact .inl rfl
    · rcases Nat.eq_zero_or_pos n with h0 | h0
      · exact .inl h0
      refine .inr ⟨g, cap, hle.tk _ _ _ ht, ?_⟩
      unfold TokR at hc ⊢
      split at hc
      · rename_i c e' fz hh
        obtain ⟨a, h1, h2, h3, h4⟩ := hc
        refine ⟨a, h1, h2, fun i hi => ?_, h4⟩
        cases hr : G'.rom g i with
        | none => rfl
        | some v => have := hrom g i v ⟨h0, cap, ht⟩ hr; rw [h3 i hi] at this; cases this
      · exact hc.elim
  | map es =>
    obtain ⟨g, hm, hc⟩ := h
    refine ⟨g, hle.mu _ _ hm, ?_⟩
    unfold MapR at hc ⊢
    split at hc
    · exact ⟨hc.1.mono hle, hc.2.mono hle⟩
    · exact hc.elim
  | loop r =>
    obtain ⟨g, hm, hc⟩ := h
    refine ⟨g, hle.mu _ _ hm, ?_⟩
    unfold LoopR at hc ⊢
    split at hc
    · obtain ⟨h1, h2, h3, h4, h5, h6, h7, h8, h9⟩ := hc
      exact ⟨h1, h2, h3, h4.mono hle, h5, h6, h7, hle.res _ h8, hle.ld _ _ h9⟩
    · exact hc.elim
  | siter s p => obtain ⟨g, hm, hc⟩ := h; exact ⟨g, hle.mu _ _ hm, hc⟩
  | dead => trivial

/-- One block of the world's has changed, or is new. -/
theorem Sim.master (hs : Sim P G base σ w) (g : Nat) (hg : base ≤ g) (hw : ∀ k, k ≠ g → w'.heap[k]? = w.heap[k]?) (hbig : base ≤ w'.heap.size)
    (hle : G.LE G')
    (hrom : ∀ k o v, G'.rom k o = some v → k ≠ g → G.rom k o = some v)
    (hromg : ∀ o v, G'.rom g o = some v → w'.cell? ⟨g, o, none⟩ = some v)
    (hmulen : ∀ b k, G'.mu b = some k → b < σ'.length) (htklen : ∀ t n p, G'.tk t n = some p → t < σ'.length)
    (hres : ∀ r, G'.res r → (G.res r ∧ r ≠ g) ∨ (r = g ∧ w'.heap[g]? = some (.deferred (some []))))
    (hobj : ∀ b o, σ'[b]? = some o → (σ[b]? = some o ∧ ¬ Blk G b o g ∧ (∀ n p, G'.tk b n = some p → G.tk b n = some p) ∧ (∀ k, G'.mu b = some k → G.mu b = some k)) ∨
      (ObjR P G' w' b o ∧ ∀ k, Blk G' b o k → k = g))
    (huniq : ∀ b o b' o', σ'[b]? = some o → σ'[b']? = some o' → Blk G' b o g → Blk G' b' o' g → b = b') : Sim P G' base σ' w' := by
  have back : ∀ b o k, (∀ n p, G'.tk b n = some p → G.tk b n = some p) → (∀ k, G'.mu b = some k → G.mu b = some k) → Blk G' b o k → Blk G b o k := by
    intro b o k ht hm hk
    cases o with
    | cells e cs => exact hm _ hk
    | map es => exact hm _ hk
    | loop r => exact hm _ hk
    | siter s p => exact hm _ hk
    | tok e n => obtain ⟨h0, cap, h⟩ := hk; exact ⟨h0, cap, ht _ _ h⟩
    | dead => exact hk
  refine ⟨fun k o v h => ?_, fun b o h => ?_, hmulen, htklen, fun b o b' o' k h h' hk hk' => ?_, fun b o k h hk => ?_, fun r hr => ?_, hbig⟩
  · by_cases e : k = g
    · subst e; exact hromg o v h
    · have := hs.rom k o v (hrom k o v h e)
      simpa [World.cell?, hw k e] using this
  · rcases hobj b o h with ⟨h1, h2, h3, h4⟩ | h1
    · refine ((hs.obj b o h1).frame fun k hk => hw k fun e => h2 (e ▸ hk)).ext hle (fun k o' v hk hv => ?_) h3
      exact hrom k o' v hv fun e => h2 (e ▸ hk)
    · exact h1.1
  · rcases hobj b o h with ⟨h1, h2, h3, h4⟩ | h1
    · rcases hobj b' o' h' with ⟨h1', h2', h3', h4'⟩ | h1'
      · exact hs.uniq b o b' o' k h1 h1' (back _ _ _ h3 h4 hk) (back _ _ _ h3' h4' hk')
      · have e := h1'.2 k hk'
        exact absurd (back _ _ _ h3 h4 hk) (e ▸ h2)
    · have e := h1.2 k hk
      subst e
      exact huniq b o b' o' h h' hk hk'
  · rcases hobj b o h with ⟨h1, h2, h3, h4⟩ | h1
    · exact hs.above b o k h1 (back _ _ _ h3 h4 hk)
    · rw [h1.2 k hk]; exact hg
  · rcases hres r hr with ⟨h1, h2⟩ | ⟨rfl, h1⟩
    · rw [hw r h2]; exact hs.res r h1
    · exact ⟨h1, hg⟩

theorem Below.ofBlock {B : Nat} (hw : ∀ k, k ≠ B → w'.heap[k]? = w.heap[k]?) (ho : w'.os = w.os) (ht : w'.tape = w.tape) (hp : w'.output = w.output) (hz : w.heap.size ≤ w'.heap.size) (hb : base ≤ B) : Below base w w' :=
  ⟨ho, ht, hp, hz, fun k hk => hw k (by omega)⟩

def addMu (G : Mm) (b g : Nat) : Mm := { G with mu := fun x => if x = b then some g else G.mu x }
def addTk (G : Mm) (t n g cap : Nat) : Mm := { G with tk := fun x m => if x = t ∧ m = n then some (g, cap) else G.tk x m }
/-- The cells of a block are never to change, from one on, so many. -/
def addRom (G : Mm) (g o : Nat) (vs : List Value) : Mm := { G with rom := fun k i => if k = g ∧ o ≤ i ∧ i < o + vs.length then vs[i - o]? else G.rom k i }
def addRes (G : Mm) (g : Nat) : Mm := { G with res := fun r => G.res r ∨ r = g }

theorem addMu_le {b g : Nat} (h : G.mu b = none) : G.LE (addMu G b g) :=
  ⟨fun _ _ _ h => h, fun x k hx => by
    simp only [addMu]; split
    · rename_i e; subst e; rw [h] at hx; cases hx
    · exact hx, fun _ _ _ h => h, fun _ h => h, fun _ _ h => h⟩
theorem addTk_le {t n g cap : Nat} (h : G.tk t n = none) : G.LE (addTk G t n g cap) :=
  ⟨fun _ _ _ h => h, fun _ _ h => h, fun x m p hx => by
    simp only [addTk]; split
    · rename_i e; rw [e.1, e.2, h] at hx; cases hx
    · exact hx, fun _ h => h, fun _ _ h => h⟩
theorem addRom_le {g o : Nat} {vs : List Value} (h : ∀ i, o ≤ i → G.rom g i = none) : G.LE (addRom G g o vs) :=
  ⟨fun k i v hv => by
    simp only [addRom]; split
    · rename_i e; rw [e.1, h i e.2.1] at hv; cases hv
    · exact hv, fun _ _ h => h, fun _ _ _ h => h, fun _ h => h, fun _ _ h => h⟩
theorem addRes_le {g : Nat} : G.LE (addRes G g) := ⟨fun _ _ _ h => h, fun _ _ h => h, fun _ _ _ h => h, fun _ h => .inl h, fun _ _ h => h⟩

theorem addRom_at {g o : Nat} {vs : List Value} {j : Nat} {v : Value} (h : vs[j]? = some v) : (addRom G g o vs).rom g (o + j) = some v := by
  have hj : j < vs.length := (List.getElem?_eq_some_iff.1 h).1
  have e : g = g ∧ o ≤ o + j ∧ o + j < o + vs.length := ⟨rfl, by omega, by omega⟩
  show (if g = g ∧ o ≤ o + j ∧ o + j < o + vs.length then vs[o + j - o]? else G.rom g (o + j)) = some v
  rw [if_pos e, Nat.add_sub_cancel_left, h]

theorem Sim.muNone (hs : Sim P G base σ w) {b : Nat} (h : σ.length ≤ b) : G.mu b = none := by
  cases e : G.mu b with
  | none => rfl
  | some g => have := hs.mulen b g e; omega
theorem Sim.tkNone (hs : Sim P G base σ w) {t n : Nat} (h : σ.length ≤ t) : G.tk t n = none := by
  cases e : G.tk t n with
  | none => rfl
  | some g => have := hs.tklen t n g e; omega
theorem Sim.romNone (hs : Sim P G base σ w) {g o : Nat} (h : w.heap.size ≤ g) : G.rom g o = none := by
  cases e : G.rom g o with
  | none => rfl
  | some v => have := hs.rom g o v e; simp [World.cell?, Array.getElem?_eq_none h] at this

/-- A new block. -/
abbrev pushW (w : World) (o : Obj) : World := { w with heap := w.heap.push o }
theorem pushW_ne (w : World) (o : Obj) (k : Nat) (h : k ≠ w.heap.size) : (pushW w o).heap[k]? = w.heap[k]? := by
  simp only [pushW, Array.getElem?_push, if_neg h]
theorem pushW_at (w : World) (o : Obj) : (pushW w o).heap[w.heap.size]? = some o := by simp [pushW]
theorem pushW_below (w : World) (o : Obj) (h : base ≤ w.heap.size) : Below base w (pushW w o) := ⟨rfl, rfl, rfl, by simp, fun k hk => pushW_ne w o k (by omega)⟩

/-- A new object of the store's, in a block that no object has. -/
theorem Sim.adopt (hs : Sim P G base σ w) (o : AObj) (gg : Nat) (hle : G.LE G') (hmu : ∀ b k, G'.mu b = some k → G.mu b = some k ∨ (b = σ.length ∧ k = gg))
    (htk : ∀ t n p, G'.tk t n = some p → G.tk t n = some p ∨ t = σ.length) (hrom : ∀ k i, k ≠ gg → G'.rom k i = G.rom k i)
    (hromg : ∀ i v, G'.rom gg i = some v → w'.cell? ⟨gg, i, none⟩ = some v) (hres : ∀ r, G'.res r → G.res r ∧ r ≠ gg) (hfree : ∀ b o, σ[b]? = some o → ¬ Blk G b o gg)
    (hbase : base ≤ gg) (hw : ∀ k, k ≠ gg → w'.heap[k]? = w.heap[k]?) (hbig : base ≤ w'.heap.size) (hobj : ObjR P G' w' σ.length o) (hblk : ∀ k, Blk G' σ.length o k → k = gg) :
    Sim P G' base (σ ++ [o]) w' := by
  have back : ∀ b o' k, b < σ.length → Blk G' b o' k → Blk G b o' k := by
    intro b o' k hb hk
    cases o' with
    | cells e cs => exact (hmu _ _ hk).resolve_right (by omega)
    | map es => exact (hmu _ _ hk).resolve_right (by omega)
    | loop r => exact (hmu _ _ hk).resolve_right (by omega)
    | siter s p => exact (hmu _ _ hk).resolve_right (by omega)
    | tok e n => obtain ⟨h0, cap, h⟩ := hk; exact ⟨h0, cap, (htk _ _ _ h).resolve_right (by omega)⟩
    | dead => exact hk
  refine hs.master gg hbase hw hbig hle (fun k i v h hk => by rwa [hrom k i hk] at h) hromg (fun b k h => ?_) (fun t n p h => ?_) (fun r h => .inl (hres r h)) (fun b o' h => ?_) (fun b o1 b' o2 h h' hb hb' => ?_)
  · rcases hmu b k h with h1 | h1
    · have := hs.mulen b k h1; simp; omega
    · simp; omega
  · rcases htk t n p h with h1 | h1
    · have := hs.tklen t n p h1; simp; omega
    · simp; omega
  · rcases Nat.lt_or_ge b σ.length with hb | hb
    · rw [List.getElem?_append_left hb] at h
      exact .inl ⟨h, hfree b o' h, fun n p hp => (htk _ _ _ hp).resolve_right (by omega), fun k hk => (hmu _ _ hk).resolve_right (by omega)⟩
    · rw [List.getElem?_append_right hb] at h
      have e : b = σ.length := by
        rcases Nat.eq_zero_or_pos (b - σ.length) with h0 | h0
        · omega
        · rw [List.getElem?_eq_none (by simp; omega)] at h; cases h
      subst e
      simp at h
      subst h
      exact .inr ⟨hobj, hblk⟩
  · have key : ∀ (b : Nat) o', (σ ++ [o])[b]? = some o' → Blk G' b o' gg → b = σ.length := by
      intro b o' h hb
      rcases Nat.lt_or_ge b σ.length with hlt | hge
      · exfalso
        rw [List.getElem?_append_left hlt] at h
        exact hfree b o' h (back b o' gg hlt hb)
      · rcases Nat.eq_or_lt_of_le hge with e | hlt
        · exact e.symm
        · rw [List.getElem?_eq_none (by simp; omega)] at h; cases h
    rw [key _ _ h hb, key _ _ h' hb']

theorem Sim.resNe (hs : Sim P G base σ w) {r : Nat} (h : G.res r) : r ≠ w.heap.size := fun e => by
  have := (hs.res r h).1; rw [e, Array.getElem?_eq_none (Nat.le_refl _)] at this; cases this

theorem addMu_of {b g x k : Nat} (h : (addMu G b g).mu x = some k) : G.mu x = some k ∨ (x = b ∧ k = g) := by
  simp only [addMu] at h
  split at h
  · rename_i e; cases h; exact .inr ⟨e, rfl⟩
  · exact .inl h

/-- A new object of the store's, in a new block. -/
theorem Sim.pushObj (hs : Sim P G base σ w) (o : AObj) (ob : Obj) (ho : ∀ g, Blk (addMu G σ.length w.heap.size) σ.length o g → g = w.heap.size)
    (hr : ObjR P (addMu G σ.length w.heap.size) (pushW w ob) σ.length o) : Sim P (addMu G σ.length w.heap.size) base (σ ++ [o]) (pushW w ob) :=
  hs.adopt o w.heap.size (addMu_le (hs.muNone (Nat.le_refl _))) (fun b k h => addMu_of h) (fun t n p h => .inl h) (fun k i _ => rfl)
    (fun i v h => by have h' : G.rom w.heap.size i = some v := h; rw [hs.romNone (Nat.le_refl _)] at h'; cases h')
    (fun r h => ⟨h, hs.resNe h⟩) (fun b o h hb => absurd (hs.lt h hb) (by omega)) hs.big (pushW_ne w ob) (by simp; exact Nat.le_succ_of_le hs.big) hr ho

/-- Cells that nobody writes any more, in a new block. -/
theorem Sim.pushRom (hs : Sim P G base σ w) (c : Array Value) (e : TypeId) (fz : Nat × Nat) (vs : List Value) (h : ∀ (j : Nat) v, vs[j]? = some v → c[j]? = some v) :
    Sim P (addRom G w.heap.size 0 vs) base σ (pushW w (.cells c e fz)) := by
  have hle : G.LE (addRom G w.heap.size 0 vs) := addRom_le fun i _ => hs.romNone (Nat.le_refl _)
  refine hs.master w.heap.size hs.big (pushW_ne w _) (by simp; exact Nat.le_succ_of_le hs.big) hle (fun k o v hv hk => ?_) (fun o v hv => ?_) (fun b k h => hs.mulen b k h) (fun t n p h => hs.tklen t n p h) (fun r h => .inl ⟨h, fun e => ?_⟩) (fun b o' h => .inl ⟨h, fun hk => absurd (hs.lt h hk) (by omega), fun n p hp => hp, fun k hk => hk⟩) (fun b o1 b' o2 h h' hb hb' => absurd (hs.lt h hb) (by omega))
  · simp only [addRom] at hv
    rwa [if_neg (by rintro ⟨e, _⟩; exact hk e)] at hv
  · simp only [addRom] at hv
    split at hv
    · rw [World.cell?, pushW_at]
      simp at hv ⊢
      exact h o v hv
    · rw [hs.romNone (Nat.le_refl _)] at hv; cases hv
  · have := (hs.res r h).1; rw [e, Array.getElem?_eq_none (Nat.le_refl _)] at this; cases this

/-- A new block of cells that the store writes. -/
theorem Sim.pushCells (hs : Sim P G base σ w) (e : TypeId) {c : Array Value} {cs : List V} (h : LR G c.toList cs) :
    Sim P (addMu G σ.length w.heap.size) base (σ ++ [.cells e cs]) (pushW w (.cells c e)) := by
  have hle : G.LE (addMu G σ.length w.heap.size) := addMu_le (hs.muNone (Nat.le_refl _))
  have hl : c.size = cs.length := by simpa using h.len
  refine hs.pushObj _ _ (fun g hg => ?_) ⟨w.heap.size, by simp [addMu], ?_⟩
  · simpa [Blk, addMu] using hg.symm
  · rw [pushW_at]
    refine ⟨rfl, by omega, ?_, fun i _ => by simp, fun o => hs.romNone (Nat.le_refl _), fun n g' cap ht => ?_⟩
    · rw [List.take_of_length_le (by simp; omega)]; exact h.mono hle
    · have : G.tk σ.length n = some (g', cap) := ht
      rw [hs.tkNone (Nat.le_refl _)] at this; cases this
end
end Go.Ev

set_option linter.unusedSimpArgs false
set_option linter.unusedVariables false
namespace Go.Ev
open Go.RowKit

section
variable {P : Program} {G G' : Mm} {base : Nat} {σ σ' : St} {w w' : World}

/-- A computation of the model's hands back what the evaluator says. -/
def SemOK (P : Program) (G : Mm) (base : Nat) (w : World) (s : Sem Value) (v : V) (σ' : St) : Prop :=
  ∃ v' w' G', s.run P w = .ok v' w' ∧ G.LE G' ∧ Sim P G' base σ' w' ∧ VR G' v' v ∧ Below base w w'

theorem SemOK.same (hs : Sim P G base σ w) {s : Sem Value} {v' : Value} {v : V} (h : s.run P w = .ok v' w) (hv : VR G v' v) : SemOK P G base w s v σ :=
  ⟨v', w, G, h, .refl _, hs, hv, .refl _ _⟩

theorem info_of_zero {t : TypeId} {z : V} (h : zeroOf P t = some z) : ∃ i v, P.info? t = some i ∧ i.zero = some v ∧ ofConst v = some z := by
  unfold zeroOf at h
  cases hi : P.info? t with
  | none => simp [hi] at h
  | some i =>
    cases hz : i.zero with
    | none => simp [hi, hz] at h
    | some v => exact ⟨i, v, rfl, hz, by simpa [hi, hz] using h⟩

theorem run_zeroValue {t : TypeId} {i : TypeInfo} {v : Value} (hi : P.info? t = some i) (hz : i.zero = some v) : (zeroValue t).run P w = .ok v w := by
  simp [zeroValue, typeInfo, hi, hz]

theorem ofConst_nilsl {v : Value} (h : ofConst v = some (.nilsl none)) : v = .slice none 0 0 := by
  unfold ofConst at h
  split at h
  · rename_i cs
    cases hg : ofCells cs.toList with
    | none => simp [hg] at h
    | some xs => simp [hg] at h
  · unfold ofCell at h
    split at h <;> first | (cases h; done) | skip
    · rfl
    · split at h <;> cases h

/-- A new variable. -/
theorem newVar_sound (hs : Sim P G base σ w) (e : TypeId) {x : Value} {v : V} (hx : VR G x v) :
    SemOK P G base w (do pure (.pointer (some (← newVar e x)))) (.ptr σ.length 0) (σ ++ [.cells e (vcells v)]) := by
  exact ⟨.pointer (some ⟨w.heap.size, 0, none⟩), _, _, by simp [newVar, newRow, pushW], addMu_le (hs.muNone (Nat.le_refl _)), hs.pushCells e hx.cells, .ptr w.heap.size σ.length 0 (by simp [addMu]), pushW_below _ _ hs.big⟩

/-- A row that has no elements yet. -/
theorem Sim.pushTok0 (hs : Sim P G base σ w) (e : TypeId) : Sim P G base (σ ++ [.tok e 0]) w where
  rom := hs.rom
  obj b o h := by
    rcases Nat.lt_or_ge b σ.length with hb | hb
    · rw [List.getElem?_append_left hb] at h; exact hs.obj b o h
    · rw [List.getElem?_append_right hb] at h
      rcases Nat.eq_zero_or_pos (b - σ.length) with h0 | h0
      · have e : b = σ.length := by omega
        simp [h0] at h; subst h; exact ⟨fun m p hp => (by rw [hs.tkNone (by omega)] at hp; cases hp), Or.inl rfl⟩
      · rw [List.getElem?_eq_none (by simp; omega)] at h; cases h
  mulen b g h := by have := hs.mulen b g h; simp; omega
  tklen t n p h := by have := hs.tklen t n p h; simp; omega
  uniq b o b' o' g h h' hb hb' := by
    have key : ∀ (b : Nat) o, (σ ++ [AObj.tok e 0])[b]? = some o → Blk G b o g → σ[b]? = some o := by
      intro b o h hb
      rcases Nat.lt_or_ge b σ.length with hl | hl
      · rwa [List.getElem?_append_left hl] at h
      · rw [List.getElem?_append_right hl] at h
        rcases Nat.eq_zero_or_pos (b - σ.length) with h0 | h0
        · simp [h0] at h; subst h; exact absurd hb.1 (by omega)
        · rw [List.getElem?_eq_none (by simp; omega)] at h; cases h
    exact hs.uniq b o b' o' g (key b o h hb) (key b' o' h' hb') hb hb'
  above b o g h hb := by
    rcases Nat.lt_or_ge b σ.length with hl | hl
    · rw [List.getElem?_append_left hl] at h; exact hs.above b o g h hb
    · rw [List.getElem?_append_right hl] at h
      rcases Nat.eq_zero_or_pos (b - σ.length) with h0 | h0
      · simp [h0] at h; subst h; exact absurd hb.1 (by omega)
      · rw [List.getElem?_eq_none (by simp; omega)] at h; cases h
  res := hs.res
  big := hs.big

theorem alloc_sound (hs : Sim P G base σ w) {e : TypeId} {v : V} (h : allocV P σ e = some (v, σ')) : SemOK P G base w (Instr.alloc e true (.tuple #[])) v σ' := by
  unfold allocV at h
  split at h
  · rename_i e' hz hu
    cases h
    obtain ⟨i, z, hi, hz1, hz2⟩ := info_of_zero hz
    have := ofConst_nilsl hz2
    subst this
    obtain ⟨v', w1, G1, hr, h1, h2, h3, h4⟩ := newVar_sound (hs.pushTok0 e') e (VR.nilsl (G := G) (some σ.length))
    refine ⟨v', w1, G1, ?_, h1, h2, by simpa using h3, h4⟩
    simp only [Instr.alloc, Sem.run_bind, run_zeroValue hi hz1, Result.andThen_ok]
    simpa [Instr.alloc] using hr
  · rename_i z hz _
    cases h
    obtain ⟨i, zv, hi, hz1, hz2⟩ := info_of_zero hz
    obtain ⟨v', w1, G1, hr, h1, h2, h3, h4⟩ := newVar_sound hs e (VR.ofConst (G := G) hz2)
    refine ⟨v', w1, G1, ?_, h1, h2, h3, h4⟩
    simp only [Instr.alloc, Sem.run_bind, run_zeroValue hi hz1, Result.andThen_ok]
    simpa [Instr.alloc] using hr
  · cases h

theorem box_sound (hs : Sim P G base σ w) (e : TypeId) {x : Value} {v : V} (hx : VR G x v) : SemOK P G base w (Instr.box e x) (.ptr σ.length 0) (σ ++ [.cells e (vcells v)]) :=
  newVar_sound hs e hx

/-! ### Literals -/
theorem foldl_set (c : Array Value) : ∀ (vs : List Value) (off : Nat), off + vs.length ≤ c.size →
    ((vs.zipIdx.foldl (fun (cs : Array Value) (x : Value × Nat) => cs.setIfInBounds (off + x.2) x.1) c).toList = c.toList.take off ++ vs ++ c.toList.drop (off + vs.length)) := by
  have gen : ∀ (vs : List Value) (k off : Nat) (c : Array Value), off + k + vs.length ≤ c.size →
      ((vs.zipIdx k).foldl (fun (cs : Array Value) (x : Value × Nat) => cs.setIfInBounds (off + x.2) x.1) c).toList = c.toList.take (off + k) ++ vs ++ c.toList.drop (off + k + vs.length) := by
    intro vs
    induction vs with
    | nil => intro k off c h; simp
    | cons v vs ih =>
      intro k off c h
      simp only [List.zipIdx_cons, List.foldl_cons]
      rw [ih (k + 1) off (c.setIfInBounds (off + k) v) (by simp at h ⊢; omega)]
      simp only [Array.toList_setIfInBounds, List.length_cons]
      have hlen : off + k < c.toList.length := by simp at h ⊢; omega
      rw [List.drop_set_of_lt (by omega)]
      rw [show off + (k + 1) = (off + k) + 1 from by omega, List.take_succ_eq_append_getElem (by simpa using hlen)]
      simp only [List.getElem_set_self, List.take_set_of_le (Nat.le_refl _)]
      rw [show off + k + 1 + vs.length = off + k + (vs.length + 1) from by omega]
      simp
  intro vs off h
  have := gen vs 0 off c (by simpa using h)
  simpa using this

theorem fill_sound {place : Nat → Option (Nat × Nat)} : ∀ {ps : List (Nat × Value)} {qs : List (Nat × V)} {c : Array Value} {cs ds : List V},
    LR G (ps.map (·.2)) (qs.map (·.2)) → ps.map (·.1) = qs.map (·.1) → LR G c.toList cs → fillV place cs qs = some ds →
    ∃ d, Instr.fill place c ps = some d ∧ LR G d.toList ds
  | [], qs, c, cs, ds, hl, hi, hc, h => by
    have : qs = [] := by have := hl.len; simp at this; exact List.eq_nil_of_length_eq_zero this.symm
    subst this
    simp [fillV] at h
    subst h
    exact ⟨c, by simp [Instr.fill], hc⟩
  | (i, x) :: ps, qs, c, cs, ds, hl, hi, hc, h => by
    cases qs with
    | nil => have := hl.len; simp at this
    | cons q qs =>
      obtain ⟨j, v⟩ := q
      simp only [List.map_cons, List.cons.injEq] at hi
      obtain ⟨rfl, hi⟩ := hi
      simp only [List.map_cons] at hl
      unfold fillV at h
      unfold Instr.fill
      cases hp : place i with
      | none => rw [hp] at h; simp at h
      | some p =>
        obtain ⟨off, size⟩ := p
        rw [hp] at h
        simp only at h ⊢
        split at h
        · rename_i hsz
          have hcl := hl.head.cells
          have e1 : x.cells.size = size := by rw [← hsz.1, ← hcl.len]; simp
          have e2 : c.size = cs.length := by simpa using hc.len
          rw [if_neg (by simp [e1]; omega)]
          refine fill_sound hl.tail hi ?_ h
          have hz : x.cells.zipIdx.foldl (fun (cs : Array Value) (x : Value × Nat) => cs.setIfInBounds (off + x.2) x.1) c = x.cells.toList.zipIdx.foldl (fun (cs : Array Value) (x : Value × Nat) => cs.setIfInBounds (off + x.2) x.1) c := by
            rw [← Array.foldl_toList, Array.toList_zipIdx]
          rw [show (x.cells.zipIdx.foldl (fun cs (c, j) => cs.setIfInBounds (off + j) c) c) = x.cells.zipIdx.foldl (fun (cs : Array Value) (x : Value × Nat) => cs.setIfInBounds (off + x.2) x.1) c from rfl, hz]
          rw [foldl_set c x.cells.toList off (by simp; omega)]
          have e3 : x.cells.toList.length = size := by simp [e1]
          rw [e3]
          exact ((hc.take off).append hcl).append (hc.drop _)
        · cases h

theorem evalP_sound {a : Act} {fr : Fr} (hf : LR G a.tmps.toList fr) : ∀ {ps : List (Nat × Operand)} {qs : List (Nat × V)}, evalP fr ps = some qs →
    LR G ((ps.map fun (i, x) => (i, a.eval x)).map (·.2)) (qs.map (·.2)) ∧ (ps.map fun (i, x) => (i, a.eval x)).map (·.1) = qs.map (·.1)
  | [], qs, h => by simp [evalP] at h; subst h; exact ⟨LR.nil, rfl⟩
  | (i, x) :: ps, qs, h => by
    unfold evalP at h
    split at h
    · rename_i v vs h1 h2
      cases h
      obtain ⟨h3, h4⟩ := evalP_sound hf h2
      exact ⟨LR.cons (VR.evalO hf h1) h3, by simp at h4 ⊢; exact h4⟩
    · cases h

theorem build_sound (hs : Sim P G base σ w) {t : TypeId} {ps : Array (Nat × Value)} {qs : List (Nat × V)} (hl : LR G (ps.toList.map (·.2)) (qs.map (·.2))) (hi : ps.toList.map (·.1) = qs.map (·.1))
    {v : V} (h : buildV P t qs = some v) : SemOK P G base w (Instr.build t ps) v σ := by
  unfold buildV at h
  split at h
  · rename_i z place hz hp
    obtain ⟨it, zv, hit, hz1, hz2⟩ := info_of_zero hz
    cases hf : fillV place (vcells z) qs with
    | none => simp [hf] at h
    | some ds =>
      simp [hf] at h
      subst h
      obtain ⟨d, hd, hdl⟩ := fill_sound hl hi (VR.ofConst (G := G) hz2).cells hf
      refine .same hs (run_build w t ps d ?_) (.agg d ds hdl.len hdl.at_)
      unfold placesOf at hp
      unfold Program.built
      rw [hit]
      cases hu : P.underlying t with
      | none => simp [hu] at hp
      | some dd =>
        rw [hu] at hp
        cases dd <;> try (simp at hp; done)
        case struct fs =>
          simp only at hp ⊢
          cases hm : fs.toList.mapM (fun f => (P.info? f.type).map fun i => (f.offset, i.size)) with
          | none => simp [hm] at hp
          | some places =>
            simp only [hm, Option.map_some, Option.some.injEq] at hp
            subst hp
            simp only [hz1, hm]
            rw [← hd]
            congr 1
            funext i
            simp
        case array n e =>
          simp only at hp ⊢
          cases hie : P.info? e with
          | none => simp [hie] at hp
          | some ie =>
            simp only [hie, Option.map_some, Option.some.injEq] at hp
            subst hp
            simp only [hz1, hie]
            exact hd
  · cases h
end
end Go.Ev

set_option linter.unusedSimpArgs false
set_option linter.unusedVariables false
namespace Go.Ev
open Go.RowKit

/-- The cells of the elements. -/
abbrev flat (xs : List V) : List V := xs.flatMap vcells
def Sized (k : Nat) (xs : List V) : Prop := ∀ x ∈ xs, (vcells x).length = k

theorem Sized.cons {k : Nat} {x : V} {xs : List V} (h : Sized k (x :: xs)) : (vcells x).length = k ∧ Sized k xs := ⟨h x (by simp), fun y hy => h y (by simp [hy])⟩
theorem sized_of_all {k : Nat} {xs : List V} (h : xs.all (fun x => (vcells x).length == k) = true) : Sized k xs := fun x hx => by
  have := List.all_eq_true.1 h x hx
  simpa using this
theorem Sized.append {k : Nat} {xs ys : List V} (h : Sized k xs) (h' : Sized k ys) : Sized k (xs ++ ys) := fun x hx => by
  rcases List.mem_append.1 hx with h1 | h1
  · exact h x h1
  · exact h' x h1
theorem Sized.sub {k : Nat} {xs ys : List V} (h : Sized k xs) (hs : ∀ y ∈ ys, y ∈ xs) : Sized k ys := fun y hy => h y (hs y hy)
theorem Sized.replicate {k n : Nat} {z : V} (h : (vcells z).length = k) : Sized k (List.replicate n z) := fun x hx => by rw [(List.mem_replicate.1 hx).2]; exact h

theorem flat_length {k : Nat} : ∀ {xs : List V}, Sized k xs → (flat xs).length = xs.length * k
  | [], _ => by simp
  | x :: xs, h => by
    have := flat_length h.cons.2
    simp only [flat, List.flatMap_cons, List.length_append, List.length_cons] at this ⊢
    rw [this, h.cons.1, Nat.add_mul, Nat.one_mul, Nat.add_comm]

theorem flat_take {k : Nat} : ∀ {xs : List V} (n : Nat), Sized k xs → flat (xs.take n) = (flat xs).take (n * k)
  | [], n, _ => by simp
  | x :: xs, 0, _ => by simp
  | x :: xs, n + 1, h => by
    have ih := flat_take (xs := xs) n h.cons.2
    simp only [flat] at ih
    simp only [flat, List.take_succ_cons, List.flatMap_cons, ih]
    have e1 : (vcells x).take ((n + 1) * k) = vcells x := List.take_of_length_le (by rw [h.cons.1]; exact Nat.le_mul_of_pos_left k (by omega))
    rw [List.take_append, h.cons.1, e1, Nat.add_mul, Nat.one_mul, Nat.add_sub_cancel]

theorem flat_drop {k : Nat} : ∀ {xs : List V} (n : Nat), Sized k xs → flat (xs.drop n) = (flat xs).drop (n * k)
  | [], n, _ => by simp
  | x :: xs, 0, _ => by simp
  | x :: xs, n + 1, h => by
    have ih := flat_drop (xs := xs) n h.cons.2
    simp only [flat] at ih
    simp only [flat, List.drop_succ_cons, List.flatMap_cons, ih]
    have e1 : (vcells x).drop ((n + 1) * k) = [] := List.drop_of_length_le (by rw [h.cons.1]; exact Nat.le_mul_of_pos_left k (by omega))
    rw [List.drop_append, h.cons.1, e1, Nat.add_mul, Nat.one_mul, Nat.add_sub_cancel, List.nil_append]

theorem flat_append (xs ys : List V) : flat (xs ++ ys) = flat xs ++ flat ys := by simp [flat]

/-- A cell of an element. -/
theorem flat_at {k : Nat} {xs : List V} (h : Sized k xs) {i j : Nat} {x b : V} (hx : xs[i]? = some x) (hb : (vcells x)[j]? = some b) : (flat xs)[i * k + j]? = some b := by
  have hi := (List.getElem?_eq_some_iff.1 hx).1
  have hj := (List.getElem?_eq_some_iff.1 hb).1
  have h1 : (flat xs).drop (i * k) = flat (xs.drop i) := (flat_drop i h).symm
  have h2 : xs.drop i = x :: xs.drop (i + 1) := by
    rw [List.drop_eq_getElem_cons hi]
    congr 1
    exact Option.some.inj ((List.getElem?_eq_getElem hi).symm.trans hx)
  rw [← List.getElem?_drop, h1, h2]
  simp only [flat, List.flatMap_cons]
  rw [List.getElem?_append_left hj, hb]

/-- The element and the cell in it. -/
theorem flat_of {k : Nat} (hk : 0 < k) {xs : List V} (h : Sized k xs) {n : Nat} {b : V} (hb : (flat xs)[n]? = some b) : ∃ x, xs[n / k]? = some x ∧ (vcells x)[n % k]? = some b := by
  have hn := (List.getElem?_eq_some_iff.1 hb).1
  rw [flat_length h] at hn
  have hi : n / k < xs.length := Nat.div_lt_of_lt_mul (by rw [Nat.mul_comm]; exact hn)
  refine ⟨xs[n / k], List.getElem?_eq_getElem hi, ?_⟩
  have hj : n % k < (vcells xs[n / k]).length := by rw [h _ (List.getElem_mem hi)]; exact Nat.mod_lt _ hk
  have := flat_at h (List.getElem?_eq_getElem hi) (List.getElem?_eq_getElem hj)
  rw [show n / k * k + n % k = n from by rw [Nat.mul_comm]; exact Nat.div_add_mod n k, hb] at this
  rw [List.getElem?_eq_getElem hj, this]

section
variable {P : Program} {G G' : Mm} {base : Nat} {σ σ' : St} {w w' : World}

/-- A row of cells that never change is a slice. -/
theorem VR.ofFlat {g o k cap : Nat} {tk : Tk} {xs : List V} {d : List Value} (hs : Sized k xs) (hrom : ∀ (n : Nat) v, d[n]? = some v → G.rom g (o + n) = some v) (hd : LR G d (flat xs))
    (hc : xs.length ≤ cap) (ht : TkOK G tk g o xs.length cap) : VR G (.slice (some ⟨g, o, none⟩) xs.length cap) (.sl tk xs) := by
  refine .sl g o cap k tk xs (fun i j => d.getD (i * k + j) Go.undef) hs (fun i x j b hx hb => ?_) (fun i x j b hx hb => ?_) hc ht
  · obtain ⟨a, ha, _⟩ := hd.get? (flat_at hs hx hb)
    have := hrom _ _ ha
    rw [List.getD_eq_getElem?_getD, ha]
    rw [Nat.add_assoc]
    exact this
  · obtain ⟨a, ha, hv⟩ := hd.get? (flat_at hs hx hb)
    rw [List.getD_eq_getElem?_getD, ha]
    exact hv

/-- What a slice's cells hold. -/
theorem Sim.slCells (hs : Sim P G base σ w) {x : Value} {tk : Tk} {xs : List V} (h : VR G x (.sl tk xs)) {k : Nat} (hk : 0 < k) (hz : Sized k xs) :
    ∃ g o cap, x = .slice (some ⟨g, o, none⟩) xs.length cap ∧ xs.length ≤ cap ∧ TkOK G tk g o xs.length cap ∧
      ∃ f : Nat → Value, (∀ n, n < xs.length * k → w.cell? ⟨g, o + n, none⟩ = some (f n) ∧ G.rom g (o + n) = some (f n)) ∧ LR G ((List.range (xs.length * k)).map f) (flat xs) := by
  cases h with
  | sl g o cap k' tk xs f hk' hr hv hc ht =>
    refine ⟨g, o, cap, rfl, hc, ht, fun n => f (n / k) (n % k), fun n hn => ?_, ⟨by simp [flat_length hz], fun i a b ha hb => ?_⟩⟩
    · have hi : n / k < xs.length := Nat.div_lt_of_lt_mul (by rw [Nat.mul_comm]; exact hn)
      have e : k' = k := by rw [← hk' _ (List.getElem_mem hi), hz _ (List.getElem_mem hi)]
      subst e
      have hj : n % k' < (vcells xs[n / k']).length := by rw [hz _ (List.getElem_mem hi)]; exact Nat.mod_lt _ hk
      have h1 := hr _ _ _ _ (List.getElem?_eq_getElem hi) (List.getElem?_eq_getElem hj)
      rw [show o + n / k' * k' + n % k' = o + n from by rw [Nat.add_assoc, Nat.mul_comm]; rw [Nat.div_add_mod n k']] at h1
      exact ⟨hs.rom _ _ _ h1, h1⟩
    · have hn := (List.getElem?_eq_some_iff.1 hb).1
      rw [flat_length hz] at hn
      rw [List.getElem?_map, List.getElem?_range hn] at ha
      simp at ha
      subst ha
      obtain ⟨x, hx, hb'⟩ := flat_of hk hz hb
      exact hv _ _ _ _ hx hb'

/-- A list by its elements. -/
theorem mkV_cells {e : TypeId} {cs : List V} {v : V} (h : mkV P e cs = some v) (hl : cs.length = tsize P e) (hc : ∀ c ∈ cs, vcells c = [c]) (h1 : isAggT P e = false → tsize P e = 1) : vcells v = cs := by
  unfold mkV at h
  cases ha : isAggT P e with
  | true => rw [ha] at h; simp at h; subst h; rfl
  | false =>
    rw [ha] at h
    simp only [Bool.false_eq_true, if_false] at h
    rw [h1 ha] at hl
    match cs, hl with
    | [c], _ => simp at h; subst h; exact hc c (by simp)

theorem listSet_fill {k : Nat} : ∀ {ps : List (Nat × V)} {xs ys : List V}, Sized k xs → (∀ p ∈ ps, (vcells p.2).length = k) → listSet xs ps = some ys →
    fillV (fun i => some (i * k, k)) (flat xs) ps = some (flat ys) ∧ Sized k ys ∧ ys.length = xs.length
  | [], xs, ys, hx, hp, h => by simp [listSet] at h; subst h; exact ⟨by simp [fillV], hx, rfl⟩
  | (i, v) :: ps, xs, ys, hx, hp, h => by
    unfold listSet at h
    split at h
    · rename_i hi
      have hv : (vcells v).length = k := hp (i, v) (by simp)
      have hx' : Sized k (xs.set i v) := fun y hy => by
        rcases List.mem_or_eq_of_mem_set hy with h1 | h1
        · exact hx y h1
        · rw [h1]; exact hv
      obtain ⟨h1, h2, h3⟩ := listSet_fill hx' (fun p hp' => hp p (by simp [hp'])) h
      refine ⟨?_, h2, by simpa using h3⟩
      unfold fillV
      simp only
      rw [if_pos ⟨hv, by rw [flat_length hx]; calc i * k + k = (i + 1) * k := by rw [Nat.add_mul, Nat.one_mul]
                                                    _ ≤ xs.length * k := Nat.mul_le_mul_right k hi⟩]
      rw [← h1]
      congr 1
      rw [show i * k + k = (i + 1) * k from by rw [Nat.add_mul, Nat.one_mul], ← flat_take i hx, ← flat_drop (i + 1) hx]
      rw [List.set_eq_take_append_cons_drop, if_pos hi]
      simp [flat]
    · cases h

theorem LR.ofFn {f : Nat → Value} {bs : List V} {n : Nat} (hn : bs.length = n) (h : ∀ i b, bs[i]? = some b → VR G (f i) b) : LR G ((List.range n).map f) bs :=
  ⟨by simp [hn], fun i a b ha hb => by
    have hi := (List.getElem?_eq_some_iff.1 hb).1
    rw [List.getElem?_map, List.getElem?_range (by omega)] at ha
    simp at ha
    subst ha
    exact h i b hb⟩

/-- Zeros, so many elements. -/
theorem zeros_sound {z : Value} {zv : V} (hz : VR G z zv) {k : Nat} (hk : 0 < k) (hl : (vcells zv).length = k) (n : Nat) :
    LR G ((List.range (n * k)).map fun i => z.cells[i % z.cells.size]!) (flat (List.replicate n zv)) := by
  have hs : Sized k (List.replicate n zv) := .replicate hl
  have hc := hz.cells
  have e : z.cells.size = k := by rw [← hl, ← hc.len]; simp
  refine LR.ofFn (by rw [flat_length hs]; simp) fun i b hb => ?_
  obtain ⟨x, hx, hb'⟩ := flat_of hk hs hb
  have := (List.mem_of_getElem? hx)
  rw [(List.mem_replicate.1 this).2] at hb'
  obtain ⟨a, ha, hv⟩ := hc.get? hb'
  rw [e]
  have ha' : z.cells[i % k]? = some a := by rw [← Array.getElem?_toList]; exact ha
  have : z.cells[i % k]! = a := by rw [Array.getElem!_eq_getD, Array.getD_eq_getD_getElem?, ha']; rfl
  rw [this]
  exact hv

theorem addTk_same {t n g cap : Nat} : (addTk G t n g cap).tk t n = some (g, cap) := by simp [addTk]

/-- A row of the store's that can grow, in a block that no object has. -/
theorem Sim.adoptGrow (hs : Sim P G base σ w) (e : TypeId) {c : Array Value} {cs : List V} (n cap gg : Nat) (hl : cs.length ≤ c.size) (h : LR G (c.toList.take cs.length) cs) (hc : cap * tsize P e ≤ c.size) (fz : Nat × Nat) (hfz : ∀ i, i < c.size → (fz.1 ≤ i && i < fz.2) = false)
    (hfree : ∀ b o, σ[b]? = some o → ¬ Blk G b o gg) (hres : ∀ r, G.res r → r ≠ gg) (hrom : ∀ i, G.rom gg i = none) (hbase : base ≤ gg) (hw : ∀ k, k ≠ gg → w'.heap[k]? = w.heap[k]?) (hg : w'.heap[gg]? = some (.cells c e fz)) (hbig : base ≤ w'.heap.size) :
    G.LE (addTk (addMu G σ.length gg) σ.length n gg cap) ∧ Sim P (addTk (addMu G σ.length gg) σ.length n gg cap) base (σ ++ [.cells e cs]) w' := by
  have hle : G.LE (addTk (addMu G σ.length gg) σ.length n gg cap) := (addMu_le (hs.muNone (Nat.le_refl _))).trans (addTk_le (hs.tkNone (Nat.le_refl _)))
  refine ⟨hle, hs.adopt _ gg hle (fun b k h => addMu_of h) (fun t m p h => ?_) (fun k i _ => rfl) (fun i v h => ?_) (fun r h => ⟨h, hres r h⟩) hfree hbase hw hbig ⟨gg, by simp [addTk, addMu], ?_⟩ (fun k hk => ?_)⟩
  · simp only [addTk, addMu] at h
    split at h
    · rename_i e'; exact .inr e'.1
    · exact .inl h
  · have h' : G.rom gg i = some v := h; rw [hrom] at h'; cases h'
  · rw [hg]
    refine ⟨rfl, hl, h.mono hle, hfz, hrom, fun m g' cap' ht => ?_⟩
    simp only [addTk, addMu] at ht
    split at ht
    · cases ht; exact ⟨rfl, hc⟩
    · rw [hs.tkNone (Nat.le_refl _)] at ht; cases ht
  · simpa [Blk, addTk, addMu] using hk.symm

/-- A row has more elements now: in its block, or in another one. -/
theorem Sim.setTok (hs : Sim P G base σ w) {t : Nat} {e : TypeId} {n0 : Nat} (ht : σ[t]? = some (.tok e n0)) {n cap gg lo : Nat} {vs : List Value} {c : Array Value} {fz : Nat × Nat} (hn : n0 < n)
    (hfree : ∀ b o, σ[b]? = some o → Blk G b o gg → b = t) (hres : ∀ r, G.res r → r ≠ gg) (hbase : base ≤ gg) (hw : ∀ k, k ≠ gg → w'.heap[k]? = w.heap[k]?) (hg : w'.heap[gg]? = some (.cells c e fz)) (hbig : base ≤ w'.heap.size)
    (hcap : n ≤ cap) (hc : cap * tsize P e ≤ c.size) (hfz : ∀ i, i < c.size → (fz.1 ≤ i && i < fz.2) = false)
    (hvs : ∀ (j : Nat) v, vs[j]? = some v → c[lo + j]? = some v) (hold : ∀ i v, G.rom gg i = some v → c[i]? = some v) (hlo : ∀ i, lo ≤ i → G.rom gg i = none) (hend : lo + vs.length = n * tsize P e) :
    G.LE (addTk (addRom G gg lo vs) t n gg cap) ∧ Sim P (addTk (addRom G gg lo vs) t n gg cap) base (σ.set t (.tok e n)) w' := by
  have ho := hs.obj t _ ht
  have hnone : G.tk t n = none := by
    cases h : G.tk t n with
    | none => rfl
    | some p => have := ho.1 n p h; omega
  have hle : G.LE (addTk (addRom G gg lo vs) t n gg cap) := (addRom_le hlo).trans (addTk_le hnone)
  have htl : t < σ.length := (List.getElem?_eq_some_iff.1 ht).1
  have htk' : ∀ x m p, (addTk (addRom G gg lo vs) t n gg cap).tk x m = some p → G.tk x m = some p ∨ x = t := by
    intro x m p h
    simp only [addTk] at h
    split at h
    · rename_i e'; exact .inr e'.1
    · exact .inl h
  refine ⟨hle, hs.master gg hbase hw hbig hle (fun k i v h hk => ?_) (fun i v h => ?_) (fun b k h => ?_) (fun x m p h => ?_) (fun r h => .inl ⟨h, hres r h⟩) (fun b o h => ?_) (fun b o b' o' h h' hb hb' => ?_)⟩
  · have h' : (addRom G gg lo vs).rom k i = some v := h
    simp only [addRom] at h'
    rwa [if_neg (by rintro ⟨e', _⟩; exact hk e')] at h'
  · have h' : (addRom G gg lo vs).rom gg i = some v := h
    rw [cell?_of_heap hg]
    simp only [addRom] at h'
    split at h'
    · rename_i e'
      have := hvs _ _ h'
      rwa [show lo + (i - lo) = i from by omega] at this
    · exact hold i v h'
  · have := hs.mulen b k h; simpa using this
  · rcases htk' x m p h with h1 | h1
    · have := hs.tklen x m p h1; simpa using this
    · simp; omega
  · by_cases e' : b = t
    · subst e'
      simp [htl] at h
      subst h
      refine .inr ⟨⟨fun m p hp => ?_, .inr ⟨gg, cap, by simp [addTk], ?_⟩⟩, fun k hk => ?_⟩
      · simp only [addTk] at hp
        split at hp
        · omega
        · have := ho.1 m p hp; omega
      · rw [hg]
        refine ⟨rfl, hcap, hc, fun i hi => ?_, hfz⟩
        show (addRom G gg lo vs).rom gg i = none
        simp only [addRom]
        rw [if_neg (by omega)]
        exact hlo i (by omega)
      · obtain ⟨_, cap', hk'⟩ := hk
        simp [addTk] at hk'
        exact hk'.1.symm
    · rw [List.getElem?_set_ne (by omega)] at h
      exact .inl ⟨h, fun hk => e' (hfree b o h hk), fun m p hp => (htk' _ _ _ hp).resolve_right e', fun k hk => hk⟩
  · have key : ∀ (b : Nat) o, (σ.set t (AObj.tok e n))[b]? = some o → Blk (addTk (addRom G gg lo vs) t n gg cap) b o gg → b = t := by
      intro b o h hb
      by_cases e' : b = t
      · exact e'
      · rw [List.getElem?_set_ne (by omega)] at h
        refine hfree b o h ?_
        cases o with
        | cells e cs => exact hb
        | map es => exact hb
        | loop r => exact hb
        | siter s p => exact hb
        | tok e n => obtain ⟨h0, cap', hk⟩ := hb; exact ⟨h0, cap', (htk' _ _ _ hk).resolve_right e'⟩
        | dead => exact hb
    rw [key _ _ h hb, key _ _ h' hb']

/-- An object is given up. -/
theorem Sim.kill (hs : Sim P G base σ w) (b : Nat) : Sim P G base (σ.set b .dead) w where
  rom := hs.rom
  obj x o h := by
    by_cases e : x = b
    · subst e
      rw [List.getElem?_set_self'] at h
      cases hx : σ[x]? with
      | none => simp [hx] at h
      | some o' => simp [hx] at h; subst h; trivial
    · rw [List.getElem?_set_ne (by omega)] at h; exact hs.obj x o h
  mulen x g h := by simpa using hs.mulen x g h
  tklen t n p h := by simpa using hs.tklen t n p h
  uniq x o x' o' g h h' hb hb' := by
    have key : ∀ (x : Nat) o, (σ.set b AObj.dead)[x]? = some o → Blk G x o g → σ[x]? = some o := by
      intro x o h hb
      by_cases e : x = b
      · subst e
        rw [List.getElem?_set_self'] at h
        cases hx : σ[x]? with
        | none => simp [hx] at h
        | some o' => simp [hx] at h; subst h; exact hb.elim
      · rwa [List.getElem?_set_ne (by omega)] at h
    exact hs.uniq x o x' o' g (key x o h hb) (key x' o' h' hb') hb hb'
  above x o g h hb := by
    by_cases e : x = b
    · subst e
      rw [List.getElem?_set_self'] at h
      cases hx : σ[x]? with
      | none => simp [hx] at h
      | some o' => simp [hx] at h; subst h; exact hb.elim
    · rw [List.getElem?_set_ne (by omega)] at h; exact hs.above x o g h hb
  res := hs.res
  big := hs.big

end
end Go.Ev

set_option linter.unusedSimpArgs false
set_option linter.unusedVariables false
namespace Go.Ev
open Go.RowKit

section
variable {P : Program} {G G' : Mm} {base : Nat} {σ σ' : St} {w w' : World}

theorem chunkV_cells {e : TypeId} {cs : List V} {v : V} (h : chunkV P e cs = some v) : vcells v = cs := by
  unfold chunkV at h
  split at h
  · cases h; rfl
  · split at h
    · split at h
      · cases h
      · rename_i c hc
        cases h
        cases v <;> first | rfl | exact (hc _ rfl).elim
    · cases h

theorem chunks_flat {e : TypeId} : ∀ {n : Nat} {cs vs : List V}, chunks P e n cs = some vs → n * tsize P e ≤ cs.length → flat vs = cs.take (n * tsize P e) ∧ Sized (tsize P e) vs ∧ vs.length = n
  | 0, cs, vs, h, _ => by simp [chunks] at h; subst h; exact ⟨by simp, fun x hx => by simp at hx, rfl⟩
  | n + 1, cs, vs, h, hl => by
    unfold chunks at h
    split at h
    · rename_i v vs' h1 h2
      cases h
      rw [Nat.add_mul, Nat.one_mul] at hl
      obtain ⟨h3, h4, h5⟩ := chunks_flat h2 (by simp; omega)
      have h6 := chunkV_cells h1
      have hv : (vcells v).length = tsize P e := by rw [h6]; simp; omega
      refine ⟨?_, fun x hx => ?_, by simp [h5]⟩
      · simp only [flat, List.flatMap_cons] at h3 ⊢
        rw [h3, h6, Nat.add_mul, Nat.one_mul, Nat.add_comm (n * tsize P e), List.take_add]
      · rcases List.mem_cons.1 hx with rfl | hx
        · exact hv
        · exact h4 x hx
    · cases h

/-- What is appended, or copied. -/
theorem Sim.source (hs : Sim P G base σ w) {x : Value} {y : V} (hx : VR G x y) {k : Nat} (hk : 0 < k) {ys : List V} (hv : viewS P σ y = some ys) (hz : Sized k ys) :
    ∃ f : Nat → Value, (Builtin.lenOf x).run P w = .ok ys.length w ∧ (∀ m, m ≤ ys.length → (Builtin.firstCells k m x).run P w = .ok ((List.range (m * k)).map f).toArray w) ∧
      LR G ((List.range (ys.length * k)).map f) (flat ys) := by
  cases y with
  | sl tk xs =>
    simp only [viewS, Option.some.injEq] at hv
    subst hv
    obtain ⟨g, o, cap, rfl, hc, ht, f, hf, hl⟩ := hs.slCells hx hk hz
    refine ⟨f, by simp [Builtin.lenOf], fun m hm => ?_, hl⟩
    simp only [Builtin.firstCells]
    exact run_loadCells f g o (m * k) fun j hj => (hf j (Nat.lt_of_lt_of_le hj (Nat.mul_le_mul_right k hm))).1
  | nilsl t =>
    simp only [viewS, Option.some.injEq] at hv
    subst hv
    cases hx
    refine ⟨fun _ => Go.undef, by simp [Builtin.lenOf], fun m hm => ?_, by simp [flat]; exact LR.nil⟩
    have : m = 0 := by simpa using hm
    subst this
    simp [Builtin.firstCells]
  | str s =>
    simp only [viewS, Option.some.injEq] at hv
    subst hv
    cases hx
    refine ⟨fun i => .int .u8 ((s.data[i]?.getD 0).toNat), by simp only [Builtin.lenOf, Sem.run_pure, List.length_map, Array.length_toList]; rfl, fun m hm => ?_, ?_⟩
    · simp only [Builtin.firstCells, Sem.run_pure]
      congr 1
      by_cases h0 : m = 0
      · subst h0
        apply Array.ext'
        simp [ByteArray.data_extract]
      have hk1 : k = 1 := by
        have hn : 0 < s.data.toList.length := by simp at hm ⊢; omega
        have := hz (.int .u8 (s.data.toList[0].toNat)) (List.mem_map.2 ⟨s.data.toList[0], List.getElem_mem hn, rfl⟩)
        simpa [vcells] using this.symm
      subst hk1
      have hsz : m ≤ s.data.size := by simpa using hm
      have hx : (s.extract 0 m).data = s.data.extract 0 m := by simp
      rw [hx]
      apply Array.ext
      · have : s.data.size = s.size := rfl
        simp; omega
      · intro i h1 h2
        simp at h1 h2
        have : i < s.data.size := by omega
        have e1 : s.data[i]? = some s.data[i] := Array.getElem?_eq_getElem this
        simp [e1]
    · have hk1 : k = 1 ∨ s.data.toList = [] := by
        cases hd : s.data.toList with
        | nil => exact .inr rfl
        | cons a l =>
          have := hz (.int .u8 a.toNat) (by rw [hd]; simp)
          exact .inl (by simpa [vcells] using this.symm)
      rcases hk1 with rfl | hk1
      · refine LR.ofFn (by rw [flat_length hz]) fun i b hb => ?_
        obtain ⟨x, hx, hb'⟩ := flat_of hk hz hb
        simp only [Nat.div_one, Nat.mod_one] at hx hb'
        rw [List.getElem?_map] at hx
        cases hi : s.data.toList[i]? with
        | none => simp [hi] at hx
        | some c =>
          simp [hi] at hx
          subst hx
          simp [vcells] at hb'
          subst hb'
          have : s.data[i]? = some c := by rw [← Array.getElem?_toList]; exact hi
          rw [this]
          exact .int _ _
      · rw [hk1]; simp [flat]; exact LR.nil
  | msl e b o n c =>
    simp only [viewS] at hv
    cases hr : rdCells σ b o (n * tsize P e) with
    | none => simp [hr] at hv
    | some cs =>
      simp only [hr, Option.bind_some] at hv
      cases hx with
      | msl _ g _ _ _ cap _ hm hc hn htk =>
        unfold rdCells at hr
        split at hr
        · rename_i e' ds hb
          split at hr
          · rename_i hle
            cases hr
            obtain ⟨g', c', fz, hm', hh, h1, h2, _⟩ := hs.cells hb
            rw [hm] at hm'; cases hm'
            obtain ⟨h3, h4, h5⟩ := chunks_flat hv (by simp; omega)
            have hkk : n = 0 ∨ k = tsize P e := by
              cases ys with
              | nil => exact .inl (by simpa using h5.symm)
              | cons y ys => exact .inr (by rw [← hz y (by simp), h4 y (by simp)])
            refine ⟨fun j => c'.toList.getD (o + j) Go.undef, by simp [Builtin.lenOf, h5], fun m hm => ?_, ?_⟩
            · simp only [Builtin.firstCells]
              refine run_loadCells _ g o (m * k) fun j hj => ?_
              rw [cell?_of_heap hh]
              have hj' : o + j < c'.size := by
                rcases hkk with h0 | h0
                · have : m = 0 := by omega
                  subst this
                  simp at hj
                · subst h0
                  have : m * tsize P e ≤ n * tsize P e := Nat.mul_le_mul_right _ (by omega)
                  omega
              simp [List.getD_eq_getElem?_getD, hj']
            · have h2' : LR G ((c'.toList.drop o).take (n * tsize P e)) ((ds.drop o).take (n * tsize P e)) := by
                have := (h2.drop o).take (n * tsize P e)
                rw [List.drop_take, List.take_take, Nat.min_eq_left (by omega)] at this
                exact this
              rw [h3, List.take_take, Nat.min_self]
              have e1 : (List.range (ys.length * k)).map (fun j => c'.toList.getD (o + j) Go.undef) = (c'.toList.drop o).take (n * tsize P e) := by
                have e2 : ys.length * k = n * tsize P e := by
                  rcases hkk with h0 | h0
                  · rw [h5, h0]; simp
                  · rw [h5, h0]
                rw [e2]
                apply List.ext_getElem
                · simp; omega
                · intro i h6 h7
                  simp at h6
                  have hi' : o + i < c'.size := by omega
                  simp [List.getD_eq_getElem?_getD, hi']
              rw [e1]
              exact h2'
          · cases hr
        · cases hr
  | _ => simp [viewS] at hv

/-! ### append, as the model runs it -/
def drawW (w : World) : World := { w with drawn := w.drawn + 1 }

theorem append_in {ts : Array TypeId} {ty t t' e : TypeId} {args : Array Value} {b : Option Addr} {n cap m : Nat} {x : Value} {ie : TypeInfo} {d' : TypeDesc}
    (h0 : ts[0]? = some t) (h1 : ts[1]? = some t') (a0 : args[0]? = some (.slice b n cap)) (a1 : args[1]? = some x) (hu : P.underlying t = some (.slice e)) (hu' : P.underlying t' = some d') (hd : ∀ k, d' ≠ .int k)
    (hi : P.info? e = some ie) (hl : (Builtin.lenOf x).run P w = .ok m w) (hc : n + m ≤ cap) {new : Array Value} (hn : (Builtin.firstCells (tsize P e) m x).run P w = .ok new w) :
    (Builtin.append_ ts ty args).run P w = (match b with | some a => (storeCells (a.add (n * tsize P e)) new.toList).run P w | none => .ok () w).andThen fun _ w2 => .ok (.slice b (n + m) cap) w2 := by
  have hz : (match d' with | .int _ => true | _ => false) = false := by cases d' <;> first | rfl | exact absurd rfl (hd _)
  unfold Builtin.append_
  simp only [h0, a0, a1, h1, Sem.run_bind, run_underlying hu, run_underlying hu', run_sizeOf' e hi, Result.andThen_ok, Sem.run_pure, hl]
  cases d' <;> first | exact absurd rfl (hd _) | skip
  all_goals
    simp only [Bool.false_eq_true, if_false, Result.andThen_ok, hl, Sem.run_bind, Sem.run_ite, hc, if_true, hn, Bool.not_false]
    cases b <;> simp [hn, hl, hc]

theorem growBy_le (n : Nat) : ∀ r c, c ≤ Builtin.growBy n r c := by
  intro r
  induction r with
  | zero => intro c; simp [Builtin.growBy]
  | succ r ih => intro c; unfold Builtin.growBy; split
                 · exact Nat.le_refl _
                 · exact Nat.le_trans (by omega) (ih _)

theorem growBy_bound (n : Nat) : ∀ r c, c ≤ 2 * n + 192 → Builtin.growBy n r c ≤ 2 * n + 192 := by
  intro r
  induction r with
  | zero => intro c h; simpa [Builtin.growBy] using h
  | succ r ih => intro c h; unfold Builtin.growBy; split
                 · exact h
                 · exact ih _ (by omega)

theorem nextslicecap_bound {n c : Nat} (h : c < n) : Builtin.nextslicecap n c ≤ 2 * n + 192 := by
  unfold Builtin.nextslicecap
  split
  · omega
  · split
    · omega
    · exact growBy_bound n 4 c (by omega)

theorem fits_spec {e : TypeId} {n : Nat} (h : fits P e n = true) : n * tbytes P e ≤ 2 ^ 46 ∧ tbytes P e ≤ 2 ^ 20 ∧ n ≤ 2 ^ 46 := by
  simp only [fits, Bool.and_eq_true, decide_eq_true_eq] at h
  exact ⟨h.1.1, h.1.2, h.2⟩

theorem append_out {ts : Array TypeId} {ty t t' e : TypeId} {args : Array Value} {b : Option Addr} {n cap m : Nat} {x : Value} {ie : TypeInfo} {d' : TypeDesc} {z : Value}
    (h0 : ts[0]? = some t) (h1 : ts[1]? = some t') (a0 : args[0]? = some (.slice b n cap)) (a1 : args[1]? = some x) (hu : P.underlying t = some (.slice e)) (hu' : P.underlying t' = some d') (hd : ∀ k, d' ≠ .int k)
    (hi : P.info? e = some ie) (hz : ie.zero = some z) (hl : (Builtin.lenOf x).run P w = .ok m w) (hc : cap < n + m) (hf : fits P e (n + m) = true)
    {old new : Array Value} (ho : (Builtin.firstCells (tsize P e) n (.slice b n cap)).run P (drawW w) = .ok old (drawW w)) (hn : (Builtin.firstCells (tsize P e) m x).run P (drawW w) = .ok new (drawW w)) :
    ∃ newCap, n + m ≤ newCap ∧ (Builtin.append_ ts ty args).run P w = .ok (.slice (some ⟨w.heap.size, 0, none⟩) (n + m) newCap) (pushW (drawW w) (.cells (old ++ new ++ Builtin.zeroCells z.cells (newCap - (n + m))) e)) := by
  refine ⟨(Question.appendCap (n + m) cap e).cut (w.tape w.drawn (.appendCap (n + m) cap e)), by simp [Question.cut], ?_⟩
  obtain ⟨f1, f2, f3⟩ := fits_spec hf
  have hb : tbytes P e = ie.bytes := by simp [tbytes, Program.bytesOf, hi]
  have hmax : ¬ ((n + m : Nat) : Int) > IntKind.i64.max := by rw [IntKind.max_i64]; omega
  have hcap : ¬ Builtin.nextslicecap (n + m) cap * ie.bytes > 2 ^ 48 := by
    have h2 := nextslicecap_bound hc
    have h3 : Builtin.nextslicecap (n + m) cap * ie.bytes ≤ (2 * (n + m) + 192) * ie.bytes := Nat.mul_le_mul_right _ h2
    have h4 : (2 * (n + m) + 192) * ie.bytes = 2 * ((n + m) * ie.bytes) + 192 * ie.bytes := by rw [Nat.add_mul, Nat.mul_assoc]
    rw [hb] at f1 f2
    omega
  have hlt : ¬ n + m ≤ cap := by omega
  unfold Builtin.append_
  simp only [h0, a0, a1, h1, Sem.run_bind, run_underlying hu, run_underlying hu', run_sizeOf' e hi, Result.andThen_ok, Sem.run_pure, hl]
  have hi' : (typeInfo e).run P w = .ok ie w := by simp [typeInfo, hi]
  have hi2 : (zeroValue e).run P (drawW w) = .ok z (drawW w) := run_zeroValue hi hz
  have hfo : (Question.appendCap (n + m) cap e).forced = false := rfl
  cases d' <;> first | exact absurd rfl (hd _) | skip
  all_goals
    simp only [Bool.false_eq_true, if_false, Result.andThen_ok, hl, Sem.run_bind, Sem.run_ite, hlt, Sem.run_pure, hi', hmax, false_and, hcap, run_choose, hfo, run_askRoom, Bool.not_false, if_true]
    rw [show ({ w with drawn := w.drawn + 1 } : World) = drawW w from rfl]
    have hi3 : (typeInfo e).run P (drawW w) = .ok ie (drawW w) := by simp [typeInfo, hi]
    simp only [hi3, Result.andThen_ok, run_askRoom, ho, hn, hi2, newRow, Sem.run_bind, run_newObj, Sem.run_pure, Bool.false_eq_true, if_false]
    rfl
end
end Go.Ev

set_option linter.unusedSimpArgs false
set_option linter.unusedVariables false
namespace Go.Ev
open Go.RowKit

section
variable {P : Program} {G G' : Mm} {base : Nat} {σ σ' : St} {w w' : World}

def setBlk (w : World) (g : Nat) (ob : Obj) : World := { w with heap := w.heap.setIfInBounds g ob }
theorem setBlk_ne (w : World) (g : Nat) (ob : Obj) (k : Nat) (h : k ≠ g) : (setBlk w g ob).heap[k]? = w.heap[k]? := by
  simp [setBlk, Array.getElem?_setIfInBounds, Ne.symm h]
theorem setBlk_at (w : World) (g : Nat) (ob : Obj) (h : g < w.heap.size) : (setBlk w g ob).heap[g]? = some ob := by
  simp [setBlk, Array.getElem?_setIfInBounds, h]
theorem setBlk_below (w : World) (g : Nat) (ob : Obj) (h : base ≤ g) : Below base w (setBlk w g ob) :=
  ⟨rfl, rfl, rfl, by simp [setBlk], fun k hk => setBlk_ne w g ob k (by omega)⟩
theorem setBlk_size (w : World) (g : Nat) (ob : Obj) : (setBlk w g ob).heap.size = w.heap.size := by simp [setBlk]

theorem take_splice {α : Type} (C xs : List α) (o n : Nat) (h : o + xs.length ≤ n) (hn : n ≤ C.length) :
    (C.take o ++ xs ++ C.drop (o + xs.length)).take n = (C.take n).take o ++ xs ++ (C.take n).drop (o + xs.length) := by
  have h1 : (C.take o ++ xs).length = o + xs.length := by simp; omega
  rw [List.take_append, h1, List.take_of_length_le (by omega), List.drop_take, List.take_take, Nat.min_eq_left (by omega)]

theorem cellOK_one {x : Value} {v : V} (h : VR G x v) (hc : cellOK v = true) : x.oneCell' = true := by
  cases h <;> first | rfl | (simp [cellOK] at hc; done)

theorem setCell_setBlk {g o : Nat} {v : Value} {c : Array Value} {e : TypeId} {fz : Nat × Nat} (h : w.heap[g]? = some (.cells c e fz)) :
    w.setCell ⟨g, o, none⟩ v = setBlk w g (.cells (c.setIfInBounds o v) e fz) := by
  obtain ⟨hl, he⟩ := Array.getElem?_eq_some_iff.1 h
  unfold World.setCell setBlk
  congr 1
  apply Array.ext_getElem?
  intro i
  rw [Array.getElem?_modify, Array.getElem?_setIfInBounds]
  by_cases e' : g = i
  · subst e'
    simp [he, hl]
  · simp [e']

theorem setBlk_self {g : Nat} {ob : Obj} (h : w.heap[g]? = some ob) : setBlk w g ob = w := by
  obtain ⟨hl, he⟩ := Array.getElem?_eq_some_iff.1 h
  have : w.heap.setIfInBounds g ob = w.heap := by
    apply Array.ext_getElem?
    intro i
    rw [Array.getElem?_setIfInBounds]
    by_cases e : g = i
    · subst e; simp [hl, he]
    · simp [e]
  unfold setBlk
  rw [this]

theorem setBlk_setBlk (g : Nat) (a b : Obj) : setBlk (setBlk w g a) g b = setBlk w g b := by
  unfold setBlk
  congr 1
  apply Array.ext_getElem?
  intro i
  simp only [Array.getElem?_setIfInBounds, Array.size_setIfInBounds]
  by_cases e : g = i
  · simp [e]
  · simp [e]

theorem run_storeCells {g o : Nat} {e : TypeId} {fz : Nat × Nat} : ∀ (vs : List Value) (i : Nat) (w : World) (c : Array Value), w.heap[g]? = some (.cells c e fz) → o + i + vs.length ≤ c.size →
    (∀ j, j < c.size → (fz.1 ≤ j && j < fz.2) = false) → (∀ v ∈ vs, v.oneCell' = true) →
    ∃ c', (storeCells ⟨g, o, none⟩ vs i).run P w = .ok () (setBlk w g (.cells c' e fz)) ∧ c'.toList = c.toList.take (o + i) ++ vs ++ c.toList.drop (o + i + vs.length)
  | [], i, w, c, h, hl, hf, hv => by
    refine ⟨c, ?_, by simp⟩
    obtain ⟨hl, he⟩ := Array.getElem?_eq_some_iff.1 h
    simp only [storeCells, Sem.run_pure]
    rw [setBlk_self h]
  | v :: vs, i, w, c, h, hl, hf, hv => by
    simp only [List.length_cons] at hl
    have h1 : w.cell? ⟨g, o + i, none⟩ = some c[o + i] := by rw [cell?_of_heap h]; simp
    have h2 : w.frozen? ⟨g, o + i, none⟩ = false := by rw [frozen?_of_heap h]; exact hf _ (by omega)
    have hlt := (Array.getElem?_eq_some_iff.1 h).1
    obtain ⟨c', hr, hc⟩ := run_storeCells (o := o) vs (i + 1) (setBlk w g (.cells (c.setIfInBounds (o + i) v) e fz)) _ (setBlk_at w g _ hlt) (by rw [Array.size_setIfInBounds]; omega) (by simpa using hf) (fun x hx => hv x (by simp [hx]))
    refine ⟨c', ?_, ?_⟩
    · unfold storeCells
      rw [Addr.add_lit, Sem.run_bind, run_store P w _ v .plain (hv v (by simp))]
      simp only [h1, h2, Bool.false_eq_true, if_false, Result.andThen_ok, setCell_setBlk h, hr, setBlk_setBlk]
    · rw [hc]
      simp only [Array.toList_setIfInBounds, List.length_cons]
      have hlen : o + i < c.toList.length := by simp; omega
      rw [List.drop_set_of_lt (by omega)]
      rw [show o + (i + 1) = (o + i) + 1 from by omega, List.take_succ_eq_append_getElem (by simpa using hlen)]
      simp only [List.getElem_set_self, List.take_set_of_le (Nat.le_refl _)]
      rw [show o + i + 1 + vs.length = o + i + (vs.length + 1) from by omega]
      simp

/-- Cells of the store's are written. -/
theorem wrCells_sound (hs : Sim P G base σ w) {b o : Nat} {vs : List V} {xs : List Value} (h : wrCells σ b o vs = some σ') (hl : LR G xs vs) {g : Nat} (hm : G.mu b = some g) :
    ∃ w', (storeCells ⟨g, o, none⟩ xs).run P w = .ok () w' ∧ Sim P G base σ' w' ∧ Below base w w' := by
  unfold wrCells at h
  split at h
  · rename_i e cs hb
    split at h
    · rename_i hc
      cases h
      obtain ⟨g', c, fz, hm', hh, h1, h2, h3, h4, h5⟩ := hs.cells hb
      rw [hm] at hm'; cases hm'
      have hlt := (Array.getElem?_eq_some_iff.1 hh).1
      have hone : ∀ v ∈ xs, v.oneCell' = true := by
        intro v hv
        obtain ⟨i, hi, he⟩ := List.getElem_of_mem hv
        obtain ⟨b, hb', hvb⟩ := hl.get?' (i := i) (a := v) (by rw [List.getElem?_eq_getElem hi, he])
        exact cellOK_one hvb (List.all_eq_true.1 hc.2 b (List.mem_of_getElem? hb'))
      have hlen := hl.len
      obtain ⟨c', hr, hc'⟩ := run_storeCells (P := P) (o := o) xs 0 w c hh (by omega) h3 hone
      simp only [Nat.add_zero] at hc'
      have hsz : c'.size = c.size := by
        have := congrArg List.length hc'
        simp at this
        omega
      have hbl : b < σ.length := (List.getElem?_eq_some_iff.1 hb).1
      have hbase : base ≤ g := hs.above b _ g hb hm
      refine ⟨_, hr, ?_, setBlk_below w g _ hbase⟩
      refine hs.master g hbase (setBlk_ne w g _) (by rw [setBlk_size]; exact hs.big) (.refl _) (fun k i v hv _ => hv) (fun i v hv => by rw [h4] at hv; cases hv) (fun x k hx => by simpa using hs.mulen x k hx)
        (fun t n p hp => by simpa using hs.tklen t n p hp) (fun r hr' => .inl ⟨hr', fun e' => ?_⟩) (fun x ob hx => ?_) (fun x ob x' ob' hx hx' hbx hbx' => ?_)
      · have := (hs.res r hr').1; rw [e', hh] at this; cases this
      · by_cases e' : x = b
        · subst e'
          rw [List.getElem?_set_self hbl] at hx
          cases hx
          refine .inr ⟨⟨g, hm, ?_⟩, fun k hk => ?_⟩
          · rw [setBlk_at w g _ hlt]
            refine ⟨rfl, by simp; omega, ?_, by rw [hsz]; exact h3, h4, by rw [hsz]; exact h5⟩
            have e1 : (cs.take o ++ vs ++ cs.drop (o + vs.length)).length = cs.length := by simp; omega
            rw [e1, hc']
            have e2 := take_splice c.toList xs o cs.length (by omega) (by simpa using h1)
            rw [e2, hl.len]
            exact ((h2.take o).append hl).append (h2.drop _)
          · have : G.mu x = some k := hk
            rw [hm] at this; cases this; rfl
        · rw [List.getElem?_set_ne (by omega)] at hx
          exact .inl ⟨hx, fun hk => e' (hs.uniq x ob b _ g hx hb hk hm), fun n p hp => hp, fun k hk => hk⟩
      · have key : ∀ (x : Nat) ob, (σ.set b (.cells e (cs.take o ++ vs ++ cs.drop (o + vs.length))))[x]? = some ob → Blk G x ob g → x = b := by
          intro x ob hx hbx
          by_cases e' : x = b
          · exact e'
          · rw [List.getElem?_set_ne (by omega)] at hx
            exact hs.uniq x ob b _ g hx hb hbx hm
        rw [key _ _ hx hbx, key _ _ hx' hbx']
    · cases h
  · cases h

theorem store_sound (hs : Sim P G base σ w) {t : TypeId} {a v : V} {x y : Value} (hx : VR G x a) (hy : VR G y v) (h : storeV P σ t a v = some σ') :
    ∃ w', (Instr.storeAt t x y).run P w = .ok () w' ∧ Sim P G base σ' w' ∧ Below base w w' := by
  unfold storeV at h
  split at h
  · rename_i b o
    split at h
    · rename_i hsz
      cases hx with
      | ptr g _ _ hm =>
        have hc := hy.cells
        obtain ⟨w', hr, h1, h2⟩ := wrCells_sound hs h hc hm
        refine ⟨w', ?_, h1, h2⟩
        have e1 : y.cells.size = tsize P t := by rw [← hsz.1, ← hc.len]; simp
        unfold Instr.storeAt Instr.sureAddr storeVar
        simp only [pure_bind]
        cases hi : P.info? t with
        | some i =>
          rw [Sem.run_bind, run_sizeOf' t hi]
          simp only [Result.andThen_ok]
          rw [if_neg (by simp [e1])]
          exact hr
        | none =>
          exfalso
          have h0 : tsize P t = 0 := by simp [tsize, Program.cellsOf, hi]
          omega
    · cases h
  · cases h
end
end Go.Ev

set_option linter.unusedSimpArgs false
set_option linter.unusedVariables false
namespace Go.Ev
open Go.RowKit

section
variable {P : Program} {G G' : Mm} {base : Nat} {σ σ' : St} {w w' : World}

theorem zeroOK_spec {e : TypeId} (h : zeroOK P e = true) : ∃ ie z, P.info? e = some ie ∧ ie.zero = some z ∧ z.cells.size = tsize P e := by
  unfold zeroOK at h
  cases hi : P.info? e with
  | none => simp [hi] at h
  | some ie =>
    cases hz : ie.zero with
    | none => simp [hi, hz] at h
    | some z => exact ⟨ie, z, rfl, hz, by simpa [hi, hz] using h⟩

theorem Sim.drew (hs : Sim P G base σ w) : Sim P G base σ (drawW w) := hs.heap rfl

/-- append into a new block. -/
theorem append_fresh (hs : Sim P G base σ w) {ts : Array TypeId} {ty t t' e : TypeId} {args : Array Value} {b : Option Addr} {cap : Nat} {y : Value} {d' : TypeDesc}
    (h0 : ts[0]? = some t) (h1 : ts[1]? = some t') {xs ys : List V} (a0 : args[0]? = some (.slice b xs.length cap)) (a1 : args[1]? = some y) (hu : P.underlying t = some (.slice e)) (hu' : P.underlying t' = some d') (hd : ∀ k, d' ≠ .int k)
    (hz : zeroOK P e = true) (hk : 0 < tsize P e) {sv : V} (hy : VR G y sv) (hv : viewS P σ sv = some ys) (hys : Sized (tsize P e) ys) (hf : fits P e (xs.length + ys.length) = true) (hc : cap < xs.length + ys.length)
    {fo : Nat → Value} (ho : (Builtin.firstCells (tsize P e) xs.length (.slice b xs.length cap)).run P (drawW w) = .ok ((List.range (xs.length * tsize P e)).map fo).toArray (drawW w))
    (hol : LR G ((List.range (xs.length * tsize P e)).map fo) (flat xs)) :
    ∃ newCap c, xs.length + ys.length ≤ newCap ∧ (Builtin.append_ ts ty args).run P w = .ok (.slice (some ⟨w.heap.size, 0, none⟩) (xs.length + ys.length) newCap) (pushW (drawW w) (.cells c e)) ∧
      newCap * tsize P e ≤ c.size ∧ LR G (c.toList.take ((xs.length + ys.length) * tsize P e)) (flat (xs ++ ys)) := by
  obtain ⟨ie, z, hi, hz1, hz2⟩ := zeroOK_spec hz
  obtain ⟨f, hl, hn, hll⟩ := hs.source hy hk hv hys
  obtain ⟨f', hl', hn', hll'⟩ := hs.drew.source hy hk hv hys
  obtain ⟨newCap, hnc, hr⟩ := append_out h0 h1 a0 a1 hu hu' hd hi hz1 hl hc hf ho (hn' _ (Nat.le_refl _))
  refine ⟨newCap, _, hnc, hr, ?_, ?_⟩
  · simp only [Builtin.zeroCells, hz2, Array.size_append, List.size_toArray, List.length_map, List.length_range, Array.size_map, Array.size_range]
    calc newCap * tsize P e = (xs.length + ys.length + (newCap - (xs.length + ys.length))) * tsize P e := by rw [Nat.add_sub_of_le hnc]
      _ ≤ _ := by rw [Nat.add_mul, Nat.add_mul]; exact Nat.le_refl _
  · have e1 : ((xs.length + ys.length) * tsize P e) = (((List.range (xs.length * tsize P e)).map fo) ++ ((List.range (ys.length * tsize P e)).map f')).length := by simp [Nat.add_mul]
    simp only [Array.toList_append, List.toList_toArray]
    rw [e1, List.take_append_of_le_length (Nat.le_refl _), List.take_length, flat_append]
    exact hol.append hll'

/-- What was there of a slice that can be read. -/
theorem Sim.oldSl (hs : Sim P G base σ w) {x : Value} {tk : Tk} {xs : List V} (h : VR G x (.sl tk xs)) {k : Nat} (hk : 0 < k) (hz : Sized k xs) :
    ∃ fo, (Builtin.firstCells k xs.length x).run P w = .ok ((List.range (xs.length * k)).map fo).toArray w ∧ LR G ((List.range (xs.length * k)).map fo) (flat xs) := by
  obtain ⟨f, _, hn, hl⟩ := hs.source h hk (by simp [viewS]) hz
  exact ⟨f, hn _ (Nat.le_refl _), hl⟩

/-- A new row of immutable elements, which can be appended to. -/
theorem fresh_tok (hs : Sim P G base σ w) (e : TypeId) {t : Nat} (ht : σ[t]? = some (.tok e 0)) {zs : List V} (hz : Sized (tsize P e) zs) (hk : 0 < tsize P e) (h0 : 0 < zs.length) {newCap : Nat} (hnc : zs.length ≤ newCap) {c : Array Value}
    (hc : newCap * tsize P e ≤ c.size) (hl : LR G (c.toList.take (zs.length * tsize P e)) (flat zs)) {wd : World} (hd : wd.heap = w.heap) :
    ∃ G', G.LE G' ∧ Sim P G' base (σ.set t (.tok e zs.length)) (pushW wd (.cells c e)) ∧ VR G' (.slice (some ⟨w.heap.size, 0, none⟩) zs.length newCap) (.sl (.tok t) zs) := by
  have hs' : Sim P G base σ wd := hs.heap hd
  have hcs : zs.length * tsize P e ≤ c.size := Nat.le_trans (Nat.mul_le_mul_right _ hnc) hc
  obtain ⟨h1, h2⟩ := hs'.setTok (w' := pushW wd (.cells c e)) ht (n := zs.length) (cap := newCap) (gg := wd.heap.size) (lo := 0) (vs := c.toList.take (zs.length * tsize P e)) (c := c) (fz := (0, 0)) h0
    (fun b o h hb => absurd (hs'.lt h hb) (by omega)) (fun r hr => hs'.resNe hr) hs'.big (pushW_ne wd _) (pushW_at wd _) (by simp; exact Nat.le_succ_of_le hs'.big) hnc hc (by simp)
    (fun j v hv => by
      rw [List.getElem?_take] at hv
      split at hv
      · rw [Nat.zero_add, ← Array.getElem?_toList]; exact hv
      · cases hv) (fun i v hv => by rw [hs'.romNone (Nat.le_refl _)] at hv; cases hv) (fun i _ => hs'.romNone (Nat.le_refl _)) (by simp; omega)
  refine ⟨_, h1, h2, ?_⟩
  rw [← hd]
  refine .ofFlat hz (d := c.toList.take (zs.length * tsize P e)) (fun n v hv => ?_) (hl.mono h1) hnc ⟨rfl, by simp [addTk]⟩
  show (addRom G wd.heap.size 0 _).rom _ _ = _
  exact addRom_at hv

/-- A new row that the store writes, which can be appended to. -/
theorem fresh_own (hs : Sim P G base σ w) (e : TypeId) {zs : List V} (hz : Sized (tsize P e) zs) {newCap : Nat} (hnc : zs.length ≤ newCap) {c : Array Value}
    (hc : newCap * tsize P e ≤ c.size) (hl : LR G (c.toList.take (zs.length * tsize P e)) (flat zs)) {wd : World} (hd : wd.heap = w.heap) :
    ∃ G', G.LE G' ∧ Sim P G' base (σ ++ [.cells e (flat zs)]) (pushW wd (.cells c e)) ∧ VR G' (.slice (some ⟨w.heap.size, 0, none⟩) zs.length newCap) (.msl e σ.length 0 zs.length none) := by
  have hs' : Sim P G base σ wd := hs.heap hd
  have hfl : (flat zs).length = zs.length * tsize P e := flat_length hz
  have hcs : zs.length * tsize P e ≤ c.size := Nat.le_trans (Nat.mul_le_mul_right _ hnc) hc
  obtain ⟨h1, h2⟩ := hs'.adoptGrow (w' := pushW wd (.cells c e)) e (c := c) (cs := flat zs) zs.length newCap wd.heap.size (by omega) (by rw [hfl]; exact hl) hc (0, 0) (by simp)
    (fun b o h hb => absurd (hs'.lt h hb) (by omega)) (fun r hr => hs'.resNe hr) (fun i => hs'.romNone (Nat.le_refl _)) hs'.big (pushW_ne wd _) (pushW_at wd _) (by simp; exact Nat.le_succ_of_le hs'.big)
  refine ⟨_, h1, h2, ?_⟩
  rw [← hd]
  exact .msl e _ _ 0 _ _ none (by simp [addTk, addMu]) (by simp) hnc (fun _ => by simp [addTk])

theorem set_append_last (σ : St) (a b : AObj) : (σ ++ [a]).set σ.length b = σ ++ [b] := by simp

/-- Nothing is appended. -/
theorem append_nothing (hs : Sim P G base σ w) {ts : Array TypeId} {ty t t' e : TypeId} {args : Array Value} {x y : Value} {d' : TypeDesc} (h0 : ts[0]? = some t) (h1 : ts[1]? = some t') (a0 : args[0]? = some x) (a1 : args[1]? = some y)
    (hu : P.underlying t = some (.slice e)) (hu' : P.underlying t' = some d') (hd : ∀ k, d' ≠ .int k) (hz : zeroOK P e = true) (hk : 0 < tsize P e) {sv : V} (hy : VR G y sv) (hv : viewS P σ sv = some [])
    {b : Option Addr} {n cap : Nat} (hx : x = .slice b n cap) (hc : n ≤ cap) : (Builtin.append_ ts ty args).run P w = .ok x w := by
  subst hx
  obtain ⟨ie, z, hi, hz1, hz2⟩ := zeroOK_spec hz
  obtain ⟨f, hl, hn, hll⟩ := hs.source hy hk hv (fun x hx => by simp at hx)
  rw [append_in h0 h1 a0 a1 hu hu' hd hi hl (by simpa using hc) (hn 0 (by simp))]
  cases b <;> simp [storeCells]

end
end Go.Ev

set_option linter.unusedSimpArgs false
set_option linter.unusedVariables false
namespace Go.Ev
open Go.RowKit

section
variable {P : Program} {G G' : Mm} {base : Nat} {σ σ' : St} {w w' : World}

theorem Below.push (w : World) {wd : World} (h : Below base w wd) (hb : base ≤ wd.heap.size) (o : Obj) : Below base w (pushW wd o) := h.trans (pushW_below wd o hb)
theorem drawW_below (w : World) : Below base w (drawW w) := ⟨rfl, rfl, rfl, Nat.le_refl _, fun _ _ => rfl⟩

/-- A row that can be appended to, in the world. -/
theorem Sim.tokBlock (hs : Sim P G base σ w) {t : Nat} {e : TypeId} {n : Nat} (ht : σ[t]? = some (.tok e n)) (hn : 0 < n) {g cap : Nat} (hg : G.tk t n = some (g, cap)) :
    ∃ c fz, w.heap[g]? = some (.cells c e fz) ∧ n ≤ cap ∧ cap * tsize P e ≤ c.size ∧ (∀ i, n * tsize P e ≤ i → G.rom g i = none) ∧ (∀ i, i < c.size → (fz.1 ≤ i && i < fz.2) = false) := by
  obtain ⟨_, h⟩ := hs.obj t _ ht
  rcases h with h | ⟨g', cap', h1, h2⟩
  · omega
  · rw [hg] at h1; cases h1
    unfold TokR at h2
    split at h2
    · rename_i c e' fz hh
      obtain ⟨rfl, a, b, c', d⟩ := h2
      exact ⟨c, fz, hh, a, b, c', d⟩
    · exact h2.elim

theorem append_sound (hs : Sim P G base σ w) {own : Bool} {ts : Array TypeId} {ty t t' e : TypeId} {args : Array Value} {x y : Value} {d' : TypeDesc} (h0 : ts[0]? = some t) (h1 : ts[1]? = some t') (a0 : args[0]? = some x) (a1 : args[1]? = some y)
    (hu : P.underlying t = some (.slice e)) (hu' : P.underlying t' = some d') (hd : ∀ k, d' ≠ .int k) {s sv : V} (hx : VR G x s) (hy : VR G y sv) {ys : List V} (hv : viewS P σ sv = some ys)
    {v : V} (h : appendV P own e σ s ys = some (v, σ')) : SemOK P G base w (Builtin.append_ ts ty args) v σ' := by
  unfold appendV at h
  split at h
  case isFalse => cases h
  rename_i hcond
  simp only [Bool.and_eq_true, List.all_eq_true, beq_iff_eq, decide_eq_true_eq] at hcond
  obtain ⟨hys0, hk, hz⟩ := hcond
  have hys : Sized (tsize P e) ys := fun z hz => (hys0 z hz).1
  have hcell : ∀ z ∈ ys, ∀ c ∈ vcells z, cellOK c = true := fun z hz c hc => (hys0 z hz).2 c hc
  have hone : ∀ {H : Mm} {xs : List Value}, LR H xs (flat ys) → ∀ v ∈ xs, v.oneCell' = true := by
    intro H xs hl v hv
    obtain ⟨i, hi, he⟩ := List.getElem_of_mem hv
    obtain ⟨b, hb', hvb⟩ := hl.get?' (i := i) (a := v) (by rw [List.getElem?_eq_getElem hi, he])
    obtain ⟨z, hz1, hz2⟩ := List.mem_flatMap.1 (List.mem_of_getElem? hb')
    exact cellOK_one hvb (hcell z hz1 b hz2)
  have hbig' : base ≤ (drawW w).heap.size := hs.big
  split at h
  · -- nil
    rename_i tt
    cases hx
    split at h
    · rename_i hnil
      subst hnil
      cases h
      exact .same hs (append_nothing hs h0 h1 a0 a1 hu hu' hd hz hk hy hv rfl (Nat.le_refl _)) (.nilsl tt)
    rename_i hne
    have hpos : 0 < ys.length := List.length_pos_iff.2 hne
    split at h
    · cases h
    rename_i hfit
    simp only [Bool.not_eq_true, Bool.not_eq_false'] at hfit
    have hf : fits P e (([] : List V).length + ys.length) = true := by simpa using hfit
    obtain ⟨newCap, c, hnc, hr, hc, hl⟩ := append_fresh (ty := ty) (xs := []) hs h0 h1 a0 a1 hu hu' hd hz hk hy hv hys hf (by simpa using hpos) (fo := fun _ => Go.undef) (by simp [Builtin.firstCells]) (by simp [flat]; exact LR.nil)
    simp only [List.length_nil, Nat.zero_add, List.nil_append] at hnc hr hl
    have hB := Below.push w (drawW_below w) hbig' (.cells c e)
    split at h
    · cases h
      obtain ⟨G', g1, g2, g3⟩ := fresh_own hs e hys hnc hc hl (wd := drawW w) rfl
      exact ⟨_, _, G', hr, g1, g2, g3, hB⟩
    · split at h
      · cases h
        obtain ⟨G', g1, g2, g3⟩ := fresh_tok (hs.pushTok0 e) e (t := σ.length) (by simp) hys hk hpos hnc hc hl (wd := drawW w) rfl
        rw [set_append_last] at g2
        exact ⟨_, _, G', hr, g1, g2, g3, hB⟩
      · split at h
        · rename_i e' ht
          split at h
          · rename_i he
            subst he
            cases h
            obtain ⟨G', g1, g2, g3⟩ := fresh_tok hs e' ht hys hk hpos hnc hc hl (wd := drawW w) rfl
            exact ⟨_, _, G', hr, g1, g2, g3, hB⟩
          · cases h
        · cases h
  · -- a slice of which nothing is written
    rename_i tk xs
    have hx' := hx
    split at h
    · rename_i hnil
      subst hnil
      cases h
      cases hx with
      | sl g o cap k tk xs f hk' hr' hv' hc ht => exact .same hs (append_nothing hs h0 h1 a0 a1 hu hu' hd hz hk hy hv rfl hc) hx'
    rename_i hne
    have hpos : 0 < ys.length := List.length_pos_iff.2 hne
    split at h
    · cases h
    rename_i hxs0
    simp only [Bool.not_eq_true, Bool.not_eq_false'] at hxs0
    have hxs : Sized (tsize P e) xs := sized_of_all hxs0
    split at h
    · cases h
    rename_i hfit
    simp only [Bool.not_eq_true, Bool.not_eq_false'] at hfit
    obtain ⟨g, o, cap, rfl, hcap, htk, fx, hfx, hfl⟩ := hs.slCells hx hk hxs
    have hzs : Sized (tsize P e) (xs ++ ys) := hxs.append hys
    have fresh : cap < xs.length + ys.length → ∃ newCap c, (xs ++ ys).length ≤ newCap ∧ (Builtin.append_ ts ty args).run P w = .ok (.slice (some ⟨w.heap.size, 0, none⟩) (xs ++ ys).length newCap) (pushW (drawW w) (.cells c e)) ∧
        newCap * tsize P e ≤ c.size ∧ LR G (c.toList.take ((xs ++ ys).length * tsize P e)) (flat (xs ++ ys)) := by
      intro hlt
      obtain ⟨fo, ho, hol⟩ := hs.drew.oldSl hx' hk hxs
      rw [List.length_append]
      exact append_fresh (ty := ty) hs h0 h1 a0 a1 hu hu' hd hz hk hy hv hys hfit hlt ho hol
    split at h
    · cases h
    · -- full
      have hlt : cap < xs.length + ys.length := by have : cap = xs.length := htk; omega
      obtain ⟨newCap, c, hnc, hr, hc, hl⟩ := fresh hlt
      have hB := Below.push w (drawW_below w) hbig' (.cells c e)
      split at h
      · cases h
        obtain ⟨G', g1, g2, g3⟩ := fresh_own hs e hzs hnc hc hl (wd := drawW w) rfl
        rw [List.length_append] at g3
        rw [List.length_append] at hr
        exact ⟨_, _, G', hr, g1, g2, g3, hB⟩
      · cases h
        obtain ⟨G', g1, g2, g3⟩ := fresh_tok (hs.pushTok0 e) e (t := σ.length) (by simp) hzs hk (by simp; omega) hnc hc hl (wd := drawW w) rfl
        rw [set_append_last, List.length_append] at g2
        exact ⟨_, _, G', hr, g1, g2, g3, hB⟩
    · -- at the end of its row
      rename_i t0
      split at h
      · rename_i e' n ht
        split at h
        · rename_i he
          obtain ⟨rfl, rfl, hn0⟩ := he
          cases h
          obtain ⟨rfl, htk'⟩ := htk
          obtain ⟨c, fz, hh, hcap', hcs, hfree, hfz⟩ := hs.tokBlock ht hn0 htk'
          rcases Nat.lt_or_ge cap (xs.length + ys.length) with hlt | hge
          · obtain ⟨newCap, c2, hnc, hr, hc2, hl⟩ := fresh hlt
            have hB := Below.push w (drawW_below w) hbig' (.cells c2 e')
            have hszc : (xs ++ ys).length * tsize P e' ≤ c2.size := Nat.le_trans (Nat.mul_le_mul_right _ hnc) hc2
            obtain ⟨g1, g2⟩ := hs.drew.setTok (w' := pushW (drawW w) (.cells c2 e')) ht (n := (xs ++ ys).length) (cap := newCap) (gg := w.heap.size) (lo := 0) (vs := c2.toList.take ((xs ++ ys).length * tsize P e')) (c := c2) (fz := (0, 0)) (by simp; omega)
              (fun b o h hb => absurd (hs.lt h hb) (by omega)) (fun r hr => hs.resNe hr) hs.big (pushW_ne _ _) (pushW_at _ _) (by simp [drawW]; exact Nat.le_succ_of_le hs.big) hnc hc2 (by simp)
              (fun j v hv => by
                rw [List.getElem?_take] at hv
                split at hv
                · rw [Nat.zero_add, ← Array.getElem?_toList]; exact hv
                · cases hv) (fun i v hv => by rw [hs.romNone (Nat.le_refl _)] at hv; cases hv) (fun i _ => hs.romNone (Nat.le_refl _)) (by simp at hszc ⊢; omega)
            refine ⟨_, _, _, hr, g1, by rw [List.length_append] at g2 ⊢; exact g2, ?_, hB⟩
            exact .ofFlat hzs (d := c2.toList.take ((xs ++ ys).length * tsize P e')) (fun n v hv => by
              show (addRom G w.heap.size 0 _).rom _ _ = _
              exact addRom_at hv) (hl.mono g1) hnc ⟨rfl, by simp [addTk]⟩
          · obtain ⟨ie, z, hi, hz1, hz2⟩ := zeroOK_spec hz
            obtain ⟨f, hly, hny, hlly⟩ := hs.source hy hk hv hys
            have hrun := append_in (ty := ty) h0 h1 a0 a1 hu hu' hd hi hly hge (hny _ (Nat.le_refl _))
            have hb1 : xs.length * tsize P e' + ys.length * tsize P e' ≤ c.size := by
              rw [← Nat.add_mul]; exact Nat.le_trans (Nat.mul_le_mul_right _ hge) hcs
            obtain ⟨c', hrs, hc'⟩ := run_storeCells (P := P) (g := g) (o := xs.length * tsize P e') ((List.range (ys.length * tsize P e')).map f) 0 w c hh (by simp; omega) hfz (hone hlly)
            have hlen' : ((List.range (ys.length * tsize P e')).map f).length = ys.length * tsize P e' := by simp
            simp only [Nat.add_zero, hlen'] at hc'
            have hsz : c'.size = c.size := by
              have := congrArg List.length hc'
              simp at this
              omega
            have hlt := (Array.getElem?_eq_some_iff.1 hh).1
            have hblk : Blk G t0 (.tok e' xs.length) g := ⟨hn0, cap, htk'⟩
            have hbase : base ≤ g := hs.above t0 _ g ht hblk
            obtain ⟨g1, g2⟩ := hs.setTok (w' := setBlk w g (.cells c' e' fz)) ht (n := (xs ++ ys).length) (cap := cap) (gg := g) (lo := xs.length * tsize P e') (vs := (List.range (ys.length * tsize P e')).map f) (c := c') (fz := fz) (by simp; omega)
              (fun b o h hb => hs.uniq b o t0 _ g h ht hb hblk) (fun r hr e' => by have := (hs.res r hr).1; rw [e', hh] at this; cases this) hbase (setBlk_ne w g _) (setBlk_at w g _ hlt) (by rw [setBlk_size]; exact hs.big)
              (by rw [List.length_append]; exact hge) (by rw [hsz]; exact hcs) (by rw [hsz]; exact hfz)
              (fun j v hv => by
                have hj := (List.getElem?_eq_some_iff.1 hv).1
                rw [hlen'] at hj
                rw [← Array.getElem?_toList, hc', List.append_assoc, List.getElem?_append_right (by simp; omega), List.getElem?_append_left (by simp; omega)]
                rw [show xs.length * tsize P e' + j - (List.take (xs.length * tsize P e') c.toList).length = j from by simp; omega]
                exact hv)
              (fun i v hv => by
                have hi : i < xs.length * tsize P e' := by
                  rcases Nat.lt_or_ge i (xs.length * tsize P e') with h' | h'
                  · exact h'
                  · rw [hfree i h'] at hv; cases hv
                have := hs.rom g i v hv
                rw [cell?_of_heap hh, ← Array.getElem?_toList] at this
                rw [← Array.getElem?_toList, hc', List.append_assoc, List.getElem?_append_left (by simp; omega), List.getElem?_take, if_pos hi]
                exact this) hfree (by rw [hlen', List.length_append, Nat.add_mul])
            refine ⟨.slice (some ⟨g, 0, none⟩) (xs ++ ys).length cap, _, _, ?_, g1, by rw [← List.length_append]; exact g2, ?_, setBlk_below w g _ hbase⟩
            · rw [hrun]
              simp only [Addr.add_lit, Nat.zero_add, List.toList_toArray] at hrs ⊢
              rw [hrs]
              simp
            · refine .ofFlat hzs (d := (List.range (xs.length * tsize P e')).map fx ++ (List.range (ys.length * tsize P e')).map f) (fun n v hv => ?_) ?_ (by rw [List.length_append]; exact hge) ⟨rfl, by simp [addTk]⟩
              · rw [Nat.zero_add]
                rcases Nat.lt_or_ge n (xs.length * tsize P e') with hn | hn
                · rw [List.getElem?_append_left (by simp; omega), List.getElem?_map, List.getElem?_range hn] at hv
                  simp at hv
                  subst hv
                  have := (hfx n hn).2
                  rw [Nat.zero_add] at this
                  exact g1.rom _ _ _ this
                · rw [List.getElem?_append_right (by simp; omega)] at hv
                  have e1 : n - ((List.range (xs.length * tsize P e')).map fx).length = n - xs.length * tsize P e' := by simp
                  rw [e1] at hv
                  have := addRom_at (G := G) (g := g) (o := xs.length * tsize P e') hv
                  rw [show xs.length * tsize P e' + (n - xs.length * tsize P e') = n from by omega] at this
                  exact this
              · rw [flat_append]
                exact (hfl.append hlly).mono g1
        · cases h
      · cases h
    · -- a row is kept for it
      rename_i t0
      have hlt : cap < xs.length + ys.length := by have : cap = xs.length := htk; omega
      obtain ⟨newCap, c, hnc, hr, hc, hl⟩ := fresh hlt
      have hB := Below.push w (drawW_below w) hbig' (.cells c e)
      split at h
      · cases h
      · split at h
        · rename_i e' ht
          split at h
          · rename_i he
            subst he
            cases h
            obtain ⟨G', g1, g2, g3⟩ := fresh_tok hs e' ht hzs hk (by simp; omega) hnc hc hl (wd := drawW w) rfl
            rw [List.length_append] at g2
            exact ⟨_, _, G', hr, g1, g2, g3, hB⟩
          · cases h
        · cases h
  · -- a row of the store's
    rename_i e1 b o n c
    split at h
    · rename_i hnil
      subst hnil
      cases h
      have hx' := hx
      cases hx with
      | msl _ g _ _ _ cap _ hm hc hn ht => exact .same hs (append_nothing hs h0 h1 a0 a1 hu hu' hd hz hk hy hv rfl hn) hx'
    rename_i hne
    have hpos : 0 < ys.length := List.length_pos_iff.2 hne
    split at h
    · cases h
    rename_i hcnd
    simp only [not_or, Decidable.not_not, Bool.not_eq_true, Bool.not_eq_false'] at hcnd
    obtain ⟨rfl, hfit⟩ := hcnd
    have hx' := hx
    cases hx with
    | msl _ g _ _ _ cap _ hm hcc hn ht =>
    split at h
    · rename_i c0
      have hcap : cap = c0 := hcc c0 rfl
      subst hcap
      split at h
      · rename_i hle
        cases hw : wrCells σ b (o + n * tsize P e1) (ys.flatMap vcells) with
        | none => simp [hw] at h
        | some σ1 =>
          simp [hw] at h
          obtain ⟨rfl, rfl⟩ := h
          obtain ⟨ie, z, hi, hz1, hz2⟩ := zeroOK_spec hz
          obtain ⟨f, hly, hny, hlly⟩ := hs.source hy hk hv hys
          have hrun := append_in (ty := ty) h0 h1 a0 a1 hu hu' hd hi hly hle (hny _ (Nat.le_refl _))
          obtain ⟨w', hr, hs', hB⟩ := wrCells_sound hs hw hlly hm
          refine ⟨.slice (some ⟨g, o, none⟩) (n + ys.length) cap, w', G, ?_, .refl _, hs', .msl e1 g b o _ cap _ hm (by simp) hle (by simp), hB⟩
          rw [hrun]
          simp only [Addr.add_lit, List.toList_toArray]
          rw [hr]
          simp
      · rename_i hgt
        split at h
        · cases h
        · rename_i xs hvs
          have hxl : xs.length = n ∧ Sized (tsize P e1) xs := by
            simp only [viewS] at hvs
            cases hrd : rdCells σ b o (n * tsize P e1) with
            | none => simp [hrd] at hvs
            | some cs =>
              simp only [hrd, Option.bind_some] at hvs
              have hcl : cs.length = n * tsize P e1 := by
                unfold rdCells at hrd
                split at hrd
                · split at hrd
                  · cases hrd; simp; omega
                  · cases hrd
                · cases hrd
              obtain ⟨_, h4, h5⟩ := chunks_flat hvs (by omega)
              exact ⟨h5, h4⟩
          obtain ⟨rfl, hxs⟩ := hxl
          obtain ⟨fo, hlo, hno, hol⟩ := hs.drew.source hx' hk hvs hxs
          obtain ⟨newCap, c, hnc, hr, hc, hl⟩ := append_fresh (ty := ty) hs h0 h1 a0 a1 hu hu' hd hz hk hy hv hys hfit (by omega) (hno _ (Nat.le_refl _)) hol
          have hzs : Sized (tsize P e1) (xs ++ ys) := hxs.append hys
          rw [← List.length_append] at hnc hl hr
          have hB := Below.push w (drawW_below w) hbig' (.cells c e1)
          split at h
          · cases h
            obtain ⟨G', g1, g2, g3⟩ := fresh_own hs e1 hzs hnc hc hl (wd := drawW w) rfl
            rw [List.length_append] at g3 hr
            exact ⟨_, _, G', hr, g1, g2, g3, hB⟩
          · cases h
            obtain ⟨G', g1, g2, g3⟩ := fresh_tok (hs.pushTok0 e1) e1 (t := σ.length) (by simp) hzs hk (by simp; omega) hnc hc hl (wd := drawW w) rfl
            rw [set_append_last, List.length_append] at g2
            exact ⟨_, _, G', hr, g1, g2, g3, hB⟩
    · split at h
      · rename_i e2 cs hb
        split at h
        · rename_i hcnd
          obtain ⟨rfl, rfl, hcl⟩ := hcnd
          cases h
          have htk := ht rfl
          obtain ⟨g', c, fz, hm', hh, h2, h3, h4, h5, h6⟩ := hs.cells hb
          rw [hm] at hm'; cases hm'
          obtain ⟨_, hcs⟩ := h6 _ _ _ htk
          have hlt := (Array.getElem?_eq_some_iff.1 hh).1
          have hbase : base ≤ g := hs.above b _ g hb hm
          have hs1 := hs.kill b
          rcases Nat.lt_or_ge cap (n + ys.length) with hlt' | hge
          · have hvs : ∃ fo : Nat → Value, (Builtin.firstCells (tsize P e2) n (.slice (some ⟨g, 0, none⟩) n cap)).run P (drawW w) = .ok ((List.range (n * tsize P e2)).map fo).toArray (drawW w) ∧ LR G ((List.range (n * tsize P e2)).map fo) cs := by
              refine ⟨fun j => c.toList.getD j Go.undef, ?_, ?_⟩
              · simp only [Builtin.firstCells]
                refine run_loadCells _ g 0 _ fun j hj => ?_
                rw [Nat.zero_add, cell?_of_heap (w := drawW w) hh]
                have hj' : j < c.size := by omega
                simp [List.getD_eq_getElem?_getD, hj']
              · have e1 : (List.range (n * tsize P e2)).map (fun j => c.toList.getD j Go.undef) = c.toList.take cs.length := by
                  apply List.ext_getElem
                  · simp; omega
                  · intro i h7 h8
                    simp at h7 h8
                    have : i < c.size := by omega
                    simp [List.getD_eq_getElem?_getD, this]
                rw [e1]
                exact h3
            obtain ⟨fo, ho, hol⟩ := hvs
            -- the old elements, as the row's cells
            obtain ⟨ie, z, hi, hz1, hz2⟩ := zeroOK_spec hz
            obtain ⟨f, hly, hny, hlly⟩ := hs.source hy hk hv hys
            obtain ⟨f', hly', hny', hlly'⟩ := hs.drew.source hy hk hv hys
            obtain ⟨newCap, hnc, hr⟩ := append_out (ty := ty) h0 h1 a0 a1 hu hu' hd hi hz1 hly hlt' hfit ho (hny' _ (Nat.le_refl _))
            have hsz : newCap * tsize P e2 ≤ (((List.range (n * tsize P e2)).map fo).toArray ++ ((List.range (ys.length * tsize P e2)).map f').toArray ++ Builtin.zeroCells z.cells (newCap - (n + ys.length))).size := by
              simp only [Builtin.zeroCells, hz2, Array.size_append, List.size_toArray, List.length_map, List.length_range, Array.size_map, Array.size_range]
              calc newCap * tsize P e2 = (n + ys.length + (newCap - (n + ys.length))) * tsize P e2 := by rw [Nat.add_sub_of_le hnc]
                _ ≤ _ := by rw [Nat.add_mul, Nat.add_mul]; exact Nat.le_refl _
            have hfl : (cs ++ ys.flatMap vcells).length = (n + ys.length) * tsize P e2 := by
              rw [List.length_append, hcl, show (ys.flatMap vcells).length = ys.length * tsize P e2 from flat_length hys, Nat.add_mul]
            have hll : LR G ((((List.range (n * tsize P e2)).map fo).toArray ++ ((List.range (ys.length * tsize P e2)).map f').toArray ++ Builtin.zeroCells z.cells (newCap - (n + ys.length))).toList.take (cs ++ ys.flatMap vcells).length) (cs ++ ys.flatMap vcells) := by
              have e1 : (cs ++ ys.flatMap vcells).length = (((List.range (n * tsize P e2)).map fo) ++ ((List.range (ys.length * tsize P e2)).map f')).length := by rw [hfl]; simp [Nat.add_mul]
              simp only [Array.toList_append, List.toList_toArray]
              rw [e1, List.take_append_of_le_length (Nat.le_refl _), List.take_length]
              exact hol.append hlly'
            obtain ⟨g1, g2⟩ := hs1.drew.adoptGrow (w' := pushW (drawW w) _) e2 (cs := cs ++ ys.flatMap vcells) (n + ys.length) newCap w.heap.size (by rw [hfl]; exact Nat.le_trans (Nat.mul_le_mul_right _ hnc) hsz) hll hsz (0, 0) (by simp)
              (fun b o h hb => absurd (hs1.lt h hb) (by omega)) (fun r hr => hs.resNe hr) (fun i => hs.romNone (Nat.le_refl _)) hs.big (pushW_ne _ _) (pushW_at _ _) (by simp [drawW]; exact Nat.le_succ_of_le hs.big)
            have hsl : (σ.set b .dead).length = σ.length := by simp
            rw [hsl] at g1 g2
            refine ⟨_, _, _, hr, g1, g2, ?_, Below.push w (drawW_below w) hbig' _⟩
            exact .msl e2 _ _ 0 _ _ none (by simp [addTk, addMu]) (by simp) hnc (fun _ => by simp [addTk])
          · obtain ⟨ie, z, hi, hz1, hz2⟩ := zeroOK_spec hz
            obtain ⟨f, hly, hny, hlly⟩ := hs.source hy hk hv hys
            have hrun := append_in (ty := ty) h0 h1 a0 a1 hu hu' hd hi hly hge (hny _ (Nat.le_refl _))
            have hb1 : n * tsize P e2 + ys.length * tsize P e2 ≤ c.size := by
              rw [← Nat.add_mul]; exact Nat.le_trans (Nat.mul_le_mul_right _ hge) hcs
            obtain ⟨c', hrs, hc'⟩ := run_storeCells (P := P) (g := g) (o := n * tsize P e2) ((List.range (ys.length * tsize P e2)).map f) 0 w c hh (by simp; omega) h4 (hone hlly)
            have hlen' : ((List.range (ys.length * tsize P e2)).map f).length = ys.length * tsize P e2 := by simp
            simp only [Nat.add_zero, hlen'] at hc'
            have hsz : c'.size = c.size := by
              have := congrArg List.length hc'
              simp at this
              omega
            have hfl : (cs ++ ys.flatMap vcells).length = n * tsize P e2 + ys.length * tsize P e2 := by
              rw [List.length_append, hcl, show (ys.flatMap vcells).length = ys.length * tsize P e2 from flat_length hys]
            obtain ⟨g1, g2⟩ := hs1.adoptGrow (w' := setBlk w g (.cells c' e2 fz)) e2 (c := c') (cs := cs ++ ys.flatMap vcells) (n + ys.length) cap g (by rw [hfl, hsz]; exact hb1)
              (by
                rw [hc', hfl]
                have e1 : (c.toList.take (n * tsize P e2) ++ (List.range (ys.length * tsize P e2)).map f).length = n * tsize P e2 + ys.length * tsize P e2 := by simp; omega
                rw [← e1, List.take_append_of_le_length (Nat.le_refl _), List.take_length, ← hcl]
                exact h3.append hlly) (by rw [hsz]; exact hcs) fz (by rw [hsz]; exact h4)
              (fun x o hx hbx => by
                by_cases e' : x = b
                · subst e'
                  rw [List.getElem?_set_self (List.getElem?_eq_some_iff.1 hb).1] at hx
                  cases hx
                  exact hbx
                · rw [List.getElem?_set_ne (by omega)] at hx
                  exact e' (hs.uniq x o b _ g hx hb hbx hm)) (fun r hr e' => by have := (hs.res r hr).1; rw [e', hh] at this; cases this) h5 hbase (setBlk_ne w g _) (setBlk_at w g _ hlt) (by rw [setBlk_size]; exact hs.big)
            have hsl : (σ.set b .dead).length = σ.length := by simp
            rw [hsl] at g1 g2
            refine ⟨.slice (some ⟨g, 0, none⟩) (n + ys.length) cap, _, _, ?_, g1, g2, .msl e2 _ _ 0 _ _ none (by simp [addTk, addMu]) (by simp) hge (fun _ => by simp [addTk]), setBlk_below w g _ hbase⟩
            rw [hrun]
            simp only [Addr.add_lit, Nat.zero_add, List.toList_toArray] at hrs ⊢
            rw [hrs]
            simp
        · cases h
      · cases h
  · cases h
end
end Go.Ev

set_option linter.unusedSimpArgs false
set_option linter.unusedVariables false
namespace Go.Ev
open Go.RowKit

section
variable {P : Program} {G G' : Mm} {base : Nat} {σ σ' : St} {w w' : World}

theorem info_of_size {t : TypeId} (h : 0 < tsize P t) : ∃ i, P.info? t = some i := by
  cases hi : P.info? t with
  | some i => exact ⟨i, rfl⟩
  | none => simp [tsize, Program.cellsOf, hi] at h

/-- An address further on. -/
theorem shiftP_sound {x : Value} {a v : V} (hx : VR G x a) {n : Nat} (h : shiftP n a = some v) : ∃ g o, x = .pointer (some ⟨g, o, none⟩) ∧ VR G (.pointer (some ⟨g, o + n, none⟩)) v := by
  unfold shiftP at h
  split at h
  · cases h
    cases hx with
    | ptr g _ o hm => exact ⟨g, _, rfl, .ptr g _ _ hm⟩
  · cases h
    cases hx with
    | rptr g o cs f hr hv =>
      refine ⟨g, o, rfl, .rptr g _ _ (fun j => f (n + j)) (fun j b hb => ?_) (fun j b hb => ?_)⟩
      · rw [List.getElem?_drop] at hb
        rw [Nat.add_assoc]; exact hr _ _ hb
      · rw [List.getElem?_drop] at hb
        exact hv _ _ hb
  · cases h

theorem fieldOf_spec {s : TypeId} {f : Nat} {fd : Field} (h : fieldOf P s f = some fd) : ∃ fs, P.underlying s = some (.struct fs) ∧ fs[f]? = some fd := by
  unfold fieldOf at h
  split at h
  · rename_i fs hu; exact ⟨fs, hu, h⟩
  · cases h

theorem fieldAddr_sound (hs : Sim P G base σ w) {s : TypeId} {x : Value} {a v : V} (hx : VR G x a) {f : Nat} (h : fieldAddrV P s a f = some v) : SemOK P G base w (Instr.fieldAt s x f) v σ := by
  unfold fieldAddrV at h
  cases hf : fieldOf P s f with
  | none => simp [hf] at h
  | some fd =>
    simp only [hf] at h
    split at h
    · cases h
    · rename_i hn
      obtain ⟨fs, hu, hfd⟩ := fieldOf_spec hf
      obtain ⟨g, o, rfl, hv⟩ := shiftP_sound hx h
      obtain ⟨i, hi⟩ := info_of_size (P := P) (t := fd.type) (by omega)
      refine .same hs ?_ hv
      simp [Instr.fieldAt, run_underlying hu, hfd, Instr.sureAddr, fieldPlace, run_sizeOf' fd.type hi, hn, Addr.add_lit]

theorem run_part {t : TypeId} {d : TypeDesc} (hd : P.underlying t = some d) {cs : Array Value} {ds : List V} (hl : LR G cs.toList ds) {off : Nat} {v : V} (h : partV P t ds off = some v) :
    ∃ v', (part t cs off).run P w = .ok v' w ∧ VR G v' v := by
  obtain ⟨i, hi⟩ := info_of_underlying hd
  unfold partV at h
  unfold part
  split at h
  · rename_i ha
    cases h
    refine ⟨.agg (cs.extract off (off + tsize P t)), by simp [run_isAgg t hd, ha, run_sizeOf' t hi], ?_⟩
    have e : (cs.extract off (off + tsize P t)).toList = (cs.toList.drop off).take (tsize P t) := by
      rw [Array.toList_extract, List.extract_eq_take_drop]; congr 1; omega
    have := (hl.drop off).take (tsize P t)
    rw [← e] at this
    exact .agg _ _ this.len this.at_
  · rename_i ha
    obtain ⟨a, ha', hv⟩ := hl.get? h
    have h2 : cs[off]? = some a := by rw [← Array.getElem?_toList]; exact ha'
    exact ⟨a, by simp [run_isAgg t hd, ha, h2], hv⟩

theorem field_sound (hs : Sim P G base σ w) {s : TypeId} {x : Value} {a v : V} (hx : VR G x a) {f : Nat} (h : fieldV P s a f = some v) :
    SemOK P G base w (Instr.field s x f) v σ := by
  unfold fieldV at h
  split at h
  · rename_i fd cs hf
    obtain ⟨fs, hu, hfd⟩ := fieldOf_spec hf
    cases hx with
    | agg xs _ hl hh =>
      split at h
      case isFalse => cases h
      rename_i hkn
      obtain ⟨d, hud⟩ := Option.isSome_iff_exists.1 hkn
      obtain ⟨v', hr, hv⟩ := run_part (P := P) (w := w) hud (LR.mk hl hh) h
      exact .same hs (by simp [Instr.field, run_underlying hu, hfd, asAgg, hr]) hv
  · cases h

theorem run_indexAt_arr {t e : TypeId} {len : Nat} (hu : P.underlying t = some (.array len e)) {i : TypeInfo} (hi : P.info? e = some i) {g o : Nat} {k : IntKind} {n : Int} (h0 : 0 ≤ n) (h1 : n < len) :
    (Instr.indexAt t (.pointer (some ⟨g, o, none⟩)) (.int k n)).run P w = .ok (.pointer (some ⟨g, o + n.toNat * tsize P e, none⟩)) w := by
  simp [Instr.indexAt, asIntOf, run_underlying hu, Instr.sureAddr, h0, h1, run_sizeOf' e hi, Addr.add_lit]

theorem run_indexAt_sl {t e : TypeId} (hu : P.underlying t = some (.slice e)) {i : TypeInfo} (hi : P.info? e = some i) {g o len cap : Nat} {k : IntKind} {n : Int} (h0 : 0 ≤ n) (h1 : n < len) :
    (Instr.indexAt t (.slice (some ⟨g, o, none⟩) len cap) (.int k n)).run P w = .ok (.pointer (some ⟨g, o + n.toNat * tsize P e, none⟩)) w := by
  simp [Instr.indexAt, asIntOf, run_underlying hu, Instr.sureAddr, h0, h1, run_sizeOf' e hi, Addr.add_lit]

theorem indexAddr_sound (hs : Sim P G base σ w) {t : TypeId} {x y : Value} {a i v : V} (hx : VR G x a) (hy : VR G y i) (h : indexAddrV P t a i = some v) : SemOK P G base w (Instr.indexAt t x y) v σ := by
  unfold indexAddrV at h
  split at h
  · rename_i k n
    cases hy
    split at h
    · rename_i len e hu
      split at h
      · rename_i hn
        obtain ⟨g, o, rfl, hv⟩ := shiftP_sound hx h
        obtain ⟨ie, hi⟩ := info_of_size hn.2.2
        exact .same hs (run_indexAt_arr hu hi hn.1 hn.2.1) hv
      · cases h
    · rename_i e hu
      split at h
      · rename_i tk xs
        split at h
        · rename_i z hz
          split at h
          · rename_i hsz
            cases h
            obtain ⟨ie, hi⟩ := info_of_size hsz.2
            cases hx with
            | sl g o cap k' _ _ f hk hr hv hc ht =>
              split at hz
              · rename_i hn
                have hl : n.toNat < xs.length := (List.getElem?_eq_some_iff.1 hz).1
                have hkk : k' = tsize P e := by rw [← hsz.1]; exact (hk z (List.mem_of_getElem? hz)).symm
                subst hkk
                exact .same hs (v' := .pointer (some ⟨g, o + n.toNat * tsize P e, none⟩)) (run_indexAt_sl hu hi hn (by omega)) (.rptr g _ _ (f n.toNat) (fun j b hb => hr _ _ _ _ hz hb) (fun j b hb => hv _ _ _ _ hz hb))
              · cases hz
          · cases h
        · cases h
      · rename_i b o m c
        split at h
        · rename_i hn
          cases h
          obtain ⟨ie, hi⟩ := info_of_size hn.2.2
          cases hx with
          | msl _ g _ _ _ cap _ hm hc hn' ht => exact .same hs (v' := .pointer (some ⟨g, o + n.toNat * tsize P e, none⟩)) (run_indexAt_sl hu hi hn.1 (by omega)) (.ptr g b _ hm)
        · cases h
      · cases h
    · cases h
  · cases h

theorem index_sound (hs : Sim P G base σ w) {t : TypeId} {x y : Value} {a i v : V} (hx : VR G x a) (hy : VR G y i) (h : indexV P t a i = some v) :
    SemOK P G base w (Instr.index t x y) v σ := by
  unfold indexV at h
  split at h
  · rename_i k n
    cases hy
    split at h
    · rename_i len e cs hu
      split at h
      · rename_i hn
        obtain ⟨ie, hi⟩ := info_of_size hn.2.2.1
        obtain ⟨d, hud⟩ := Option.isSome_iff_exists.1 hn.2.2.2
        cases hx with
        | agg xs _ hl hh =>
          obtain ⟨v', hr, hv⟩ := run_part (P := P) (w := w) hud (LR.mk hl hh) h
          exact .same hs (by simp [Instr.index, asIntOf, run_underlying hu, hn.1, hn.2.1, run_sizeOf' e hi, hr]) hv
      · cases h
    · rename_i s hu
      cases hx
      split at h
      · rename_i c hc
        cases h
        exact .same hs (by simp [Instr.index, asIntOf, run_underlying hu, hc]) (.int _ _)
      · cases h
    · cases h
  · cases h

/-! ### Slices of slices -/
theorem bound_sound {x : Option Value} {b : Option V} (hx : match x, b with | some x, some b => VR G x b | none, none => True | _, _ => False) {dflt most n : Nat} (h : bound b dflt most = some n) :
    (x = none ∧ n = dflt) ∨ (∃ k i, x = some (.int k i) ∧ 0 ≤ i ∧ i ≤ most ∧ n = i.toNat) := by
  unfold bound at h
  split at h
  · cases h
    cases x with
    | none => exact .inl ⟨rfl, rfl⟩
    | some x => exact hx.elim
  · rename_i k i
    split at h
    · rename_i hi
      cases h
      cases x with
      | none => exact hx.elim
      | some x => cases (show VR G x (.int k i) from hx); exact .inr ⟨k, i, rfl, hi.1, hi.2, rfl⟩
    · cases h
  · cases h

def OptR (G : Mm) (x : Option Value) (b : Option V) : Prop := match x, b with | some x, some b => VR G x b | none, none => True | _, _ => False

theorem run_sliceBound {x : Value} {k : IntKind} {i : Int} (hx : x = .int k i) {most : Nat} (h0 : 0 ≤ i) (h1 : i ≤ most) (code : BoundsCode) : (Instr.sliceBound x most code).run P w = .ok i.toNat w := by
  subst hx; simp [Instr.sliceBound, asIntOf, h0, h1]

/-- The three bounds: the model's capacity may be greater than what the evaluator takes for it. -/
theorem run_bounds {isSlice : Bool} {len cap : Nat} {lo hi mx : Option Value} {lo' hi' mx' : Option V} (hlo : OptR G lo lo') (hhi : OptR G hi hi') (hmx : OptR G mx mx') {m0 m h l : Nat}
    (hm : bound mx' m0 m0 = some m) (hh : bound hi' len m = some h) (hl : bound lo' 0 h = some l) (hc : m0 ≤ cap) (hhm : mx'.isSome = true → hi'.isSome = true) :
    (Instr.sliceBounds isSlice len cap lo hi mx).run P w = .ok (l, h, if mx'.isSome then m else cap) w := by
  rcases bound_sound hmx hm with ⟨rfl, rfl⟩ | ⟨k1, i1, rfl, a1, b1, rfl⟩
  · have e1 : mx' = none := by cases mx' with | none => rfl | some _ => exact hmx.elim
    subst e1
    rcases bound_sound hhi hh with ⟨rfl, rfl⟩ | ⟨k2, i2, rfl, a2, b2, rfl⟩
    · rcases bound_sound hlo hl with ⟨rfl, rfl⟩ | ⟨k3, i3, rfl, a3, b3, rfl⟩
      · simp [Instr.sliceBounds]
      · simp [Instr.sliceBounds, run_sliceBound rfl a3 b3]
    · have b2' : i2 ≤ (cap : Int) := by omega
      rcases bound_sound hlo hl with ⟨rfl, rfl⟩ | ⟨k3, i3, rfl, a3, b3, rfl⟩
      · simp [Instr.sliceBounds, run_sliceBound rfl a2 b2']
      · simp only [Instr.sliceBounds, Sem.run_bind, Sem.run_pure, Result.andThen_ok, run_sliceBound rfl a2 b2', run_sliceBound rfl a3 b3]
        simp
  · have e1 : mx'.isSome = true := by cases mx' with | none => exact hmx.elim | some _ => rfl
    have b1' : i1 ≤ (cap : Int) := by omega
    rcases bound_sound hhi hh with ⟨rfl, rfl⟩ | ⟨k2, i2, rfl, a2, b2, rfl⟩
    · have := hhm e1
      cases hi' with
      | none => simp at this
      | some _ => exact hhi.elim
    · rcases bound_sound hlo hl with ⟨rfl, rfl⟩ | ⟨k3, i3, rfl, a3, b3, rfl⟩
      · simp only [Instr.sliceBounds, Sem.run_bind, Sem.run_pure, Result.andThen_ok, run_sliceBound rfl a1 b1', run_sliceBound rfl a2 b2, e1, if_true]
      · simp only [Instr.sliceBounds, Sem.run_bind, Sem.run_pure, Result.andThen_ok, run_sliceBound rfl a1 b1', run_sliceBound rfl a2 b2, run_sliceBound rfl a3 b3, e1, if_true]
end
end Go.Ev

set_option linter.unusedSimpArgs false
set_option linter.unusedVariables false
namespace Go.Ev
open Go.RowKit

section
variable {P : Program} {G G' : Mm} {base : Nat} {σ σ' : St} {w w' : World}

theorem bound_le {b : Option V} {d m n : Nat} (h : bound b d m = some n) (hd : d ≤ m) : n ≤ m := by
  unfold bound at h
  split at h
  · cases h; exact hd
  · split at h
    · cases h; omega
    · cases h
  · cases h
theorem bound_none {d m n : Nat} (h : bound none d m = some n) : n = d := by simp [bound] at h; exact h.symm

theorem subTk_ok {tk : Tk} {g o n cap k : Nat} (ht : TkOK G tk g o n cap) (hc : n ≤ cap) {isMax : Bool} {l h m : Nat} (hl : l ≤ h) (hh : h ≤ m) (hm : m ≤ n) :
    TkOK G (subTk tk isMax n l h m) g (if (if isMax then m else cap) = l then o else o + l * k) (h - l) ((if isMax then m else cap) - l) := by
  unfold subTk
  cases isMax with
  | true =>
    simp only [if_true]
    split
    · rename_i e; subst e; rfl
    · trivial
  | false =>
    simp only [Bool.false_eq_true, if_false]
    cases tk with
    | sealed => trivial
    | full =>
      simp only
      split
      · rename_i e
        have : cap = n := ht
        show cap - l = h - l
        omega
      · trivial
    | res t =>
      simp only
      split
      · rename_i e
        have : cap = n := ht
        show cap - l = h - l
        omega
      · trivial
    | tok t =>
      simp only
      split
      · rename_i e
        obtain ⟨rfl, rfl⟩ := e
        obtain ⟨rfl, h2⟩ := ht
        exact ⟨by simp, by simpa using h2⟩
      · trivial

theorem slice_sound (hs : Sim P G base σ w) {t : TypeId} {x : Value} {a v : V} (hx : VR G x a) {lo hi mx : Option Value} {lo' hi' mx' : Option V} (hlo : OptR G lo lo') (hhi : OptR G hi hi') (hmx : OptR G mx mx')
    (h : sliceOf P t a lo' hi' mx' = some v) : SemOK P G base w (Instr.sliceAt t x lo hi mx) v σ := by
  unfold sliceOf at h
  split at h
  · cases h
  rename_i hmh
  have hhm : mx'.isSome = true → hi'.isSome = true := by
    intro e
    cases hi' with
    | none => simp [e] at hmh
    | some _ => rfl
  split at h
  · -- a string
    rename_i hu
    split at h
    · rename_i s
      cases hx
      have e1 : mx = none := by cases mx with | none => rfl | some _ => exact hmx.elim
      subst e1
      split at h
      · rename_i hh hb
        cases hl : bound lo' 0 hh with
        | none => simp [hl] at h
        | some l =>
          simp [hl] at h
          subst h
          have := run_bounds (P := P) (w := w) (isSlice := false) (len := s.size) (cap := s.size) (lo := lo) (hi := hi) (mx := none) hlo hhi (mx' := none) trivial (m0 := s.size) (m := s.size) rfl hb hl (Nat.le_refl _) (by simp)
          exact .same hs (by simp [Instr.sliceAt, Instr.slice, run_underlying hu, this]) (.str _)
      · cases h
    · cases h
  · -- a slice
    rename_i e hu
    have hsl : ∀ y, (Instr.sliceAt t y lo hi mx).run P w = (Instr.slice t y lo hi mx).run P w := by
      intro y; simp [Instr.sliceAt, run_underlying hu]
    split at h
    · rename_i tt
      cases hx
      split at h
      · rename_i m hh l hm hb hl
        split at h
        · rename_i hsz
          cases h
          obtain ⟨ie, hinf⟩ := info_of_size hsz
          have m0 := bound_le hm (Nat.le_refl _)
          have h0' := bound_le hb (Nat.le_refl _)
          have l0 := bound_le hl (Nat.le_refl _)
          have e1 : m = 0 := by omega
          have e2 : hh = 0 := by omega
          have e3 : l = 0 := by omega
          subst e1; subst e2; subst e3
          have := run_bounds (P := P) (w := w) (isSlice := true) (len := 0) (cap := 0) hlo hhi hmx hm hb hl (Nat.le_refl _) hhm
          refine .same hs (v' := .slice none 0 0) ?_ (.nilsl none)
          rw [hsl]
          simp [Instr.slice, run_underlying hu, this, run_sizeOf' e hinf]
        · cases h
      · cases h
    · rename_i tk xs
      split at h
      · rename_i m hm
        split at h
        · rename_i hh hb
          split at h
          · rename_i l hl
            split at h
            · rename_i hok
              cases h
              unfold headOK at hok
              simp only [Bool.and_eq_true, decide_eq_true_eq] at hok
              obtain ⟨hk, hhead⟩ := hok
              obtain ⟨ie, hinf⟩ := info_of_size hk
              have m0 := bound_le hm (Nat.le_refl _)
              cases hx with
              | sl g o cap k _ _ f hkk hr hv hc ht =>
                have hkeq : xs = [] ∨ k = tsize P e := by
                  cases xs with
                  | nil => exact .inl rfl
                  | cons x xs =>
                    right
                    simp at hhead
                    rw [← hhead]
                    exact (hkk x (by simp)).symm
                have hle : hh ≤ m := by
                  cases hmx' : mx' with
                  | none => subst hmx'; have := bound_none hm; subst this; exact bound_le hb (Nat.le_refl _)
                  | some mv =>
                    have h1 := hhm (by rw [hmx']; rfl)
                    cases hi' : hi' with
                    | none => rw [hi'] at h1; simp at h1
                    | some hv => rw [hi'] at hb; unfold bound at hb; split at hb
                                 · rename_i e'; cases e'
                                 · split at hb
                                   · cases hb; omega
                                   · cases hb
                                 · cases hb
                have l0 := bound_le hl (Nat.zero_le _)
                have hrun := run_bounds (P := P) (w := w) (isSlice := true) (len := xs.length) (cap := cap) hlo hhi hmx hm hb hl hc hhm
                refine .same hs (v' := .slice (some ⟨g, if (if mx'.isSome then m else cap) = l then o else o + l * tsize P e, none⟩) (hh - l) ((if mx'.isSome then m else cap) - l)) ?_ ?_
                · rw [hsl]
                  simp only [Instr.slice, Sem.run_bind, run_underlying hu, Result.andThen_ok, hrun, run_sizeOf' e hinf, Sem.run_pure]
                  generalize (if mx'.isSome = true then m else cap) = M
                  by_cases hM : M = l
                  · simp [hM]
                  · simp [hM, Addr.add_lit]
                · have hlen : ((xs.drop l).take (hh - l)).length = hh - l := by simp; omega
                  have htk := subTk_ok (k := tsize P e) ht hc (isMax := mx'.isSome) l0 hle m0
                  have hmain := VR.sl (G := G) g (if (if mx'.isSome then m else cap) = l then o else o + l * tsize P e) ((if mx'.isSome then m else cap) - l) (tsize P e) (subTk tk mx'.isSome xs.length l hh m) ((xs.drop l).take (hh - l)) (fun i j => f (l + i) j)
                    (fun x hx => by
                      have hx' : x ∈ xs := List.mem_of_mem_drop (List.mem_of_mem_take hx)
                      rcases hkeq with h0 | h0
                      · rw [h0] at hx'; simp at hx'
                      · rw [← h0]; exact hkk x hx')
                    (fun i x j b hx hb' => by
                      rw [List.getElem?_take] at hx
                      split at hx
                      · rename_i hi2
                        rw [List.getElem?_drop] at hx
                        rcases hkeq with h0 | h0
                        · rw [h0] at hx; simp at hx
                        · have hne : ¬ (if mx'.isSome then m else cap) = l := by split <;> omega
                          rw [if_neg hne]
                          have := hr _ _ _ _ hx hb'
                          rw [h0] at this
                          rw [← this]
                          congr 1
                          rw [Nat.add_mul]
                          omega
                      · cases hx)
                    (fun i x j b hx hb' => by
                      rw [List.getElem?_take] at hx
                      split at hx
                      · rw [List.getElem?_drop] at hx
                        exact hv _ _ _ _ hx hb'
                      · cases hx)
                    (by rw [hlen]; split <;> omega) (by rw [hlen]; exact htk)
                  rw [hlen] at hmain
                  exact hmain
            · cases h
          · cases h
        · cases h
      · cases h
    · rename_i e' b o n c
      split at h
      · cases h
      rename_i hcnd
      simp only [not_or, Decidable.not_not] at hcnd
      obtain ⟨rfl, hsz⟩ := hcnd
      obtain ⟨ie, hinf⟩ := info_of_size (P := P) (t := e') (by omega)
      cases hx with
      | msl _ g _ _ _ cap _ hm hc hn ht =>
      split at h
      · rename_i c0
        have hcap : cap = c0 := hc c0 rfl
        subst hcap
        split at h
        · rename_i m hmm
          split at h
          · rename_i hh hb
            cases hl : bound lo' 0 hh with
            | none => simp [hl] at h
            | some l =>
              simp [hl] at h
              subst h
              have m0 := bound_le hmm (Nat.le_refl _)
              have hrun := run_bounds (P := P) (w := w) (isSlice := true) (len := n) (cap := cap) hlo hhi hmx hmm hb hl (Nat.le_refl _) hhm
              have hM : (if mx'.isSome then m else cap) = m := by
                cases mx' with
                | none => exact (bound_none hmm).symm
                | some _ => rfl
              rw [hM] at hrun
              have l0 := bound_le hl (Nat.zero_le _)
              have hle : hh ≤ m := by
                cases hmx' : mx' with
                | none => subst hmx'; have := bound_none hmm; subst this; exact bound_le hb hn
                | some mv =>
                  have h1 := hhm (by rw [hmx']; rfl)
                  cases hi' : hi' with
                  | none => rw [hi'] at h1; simp at h1
                  | some hv => rw [hi'] at hb; unfold bound at hb; split at hb
                               · rename_i e'; cases e'
                               · split at hb
                                 · cases hb; omega
                                 · cases hb
                               · cases hb
              refine .same hs (v' := .slice (some ⟨g, if m = l then o else o + l * tsize P e', none⟩) (hh - l) (m - l)) ?_ (.msl e' g b _ _ _ _ hm (by simp) (by omega) (by simp))
              rw [hsl]
              simp only [Instr.slice, Sem.run_bind, run_underlying hu, Result.andThen_ok, hrun, run_sizeOf' e' hinf, Sem.run_pure]
              split <;> simp [Addr.add_lit]
          · cases h
        · cases h
      · split at h
        · rename_i m hmm
          split at h
          · rename_i hh hb
            cases hl : bound lo' 0 hh with
            | none => simp [hl] at h
            | some l =>
              simp only [hl, Option.bind_some] at h
              have m0 := bound_le hmm (Nat.le_refl _)
              have hrun := run_bounds (P := P) (w := w) (isSlice := true) (len := n) (cap := cap) hlo hhi hmx hmm hb hl hn hhm
              have l0 := bound_le hl (Nat.zero_le _)
              split at h
              · rename_i hsome
                cases h
                have hle : hh ≤ m := by
                  have h1 := hhm hsome
                  cases hi' : hi' with
                  | none => rw [hi'] at h1; simp at h1
                  | some hv => rw [hi'] at hb; unfold bound at hb; split at hb
                               · rename_i e'; cases e'
                               · split at hb
                                 · cases hb; omega
                                 · cases hb
                               · cases hb
                rw [if_pos hsome] at hrun
                refine .same hs (v' := .slice (some ⟨g, if m = l then o else o + l * tsize P e', none⟩) (hh - l) (m - l)) ?_ (.msl e' g b _ _ _ _ hm (by simp) (by omega) (by simp))
                rw [hsl]
                simp only [Instr.slice, Sem.run_bind, run_underlying hu, Result.andThen_ok, hrun, run_sizeOf' e' hinf, Sem.run_pure]
                split <;> simp [Addr.add_lit]
              · rename_i hsome
                split at h
                · rename_i hl0
                  obtain ⟨rfl, rfl⟩ := hl0
                  cases h
                  rw [if_neg hsome] at hrun
                  refine .same hs (v' := .slice (some ⟨g, o, none⟩) hh cap) ?_ (.msl e' g b _ _ _ _ hm (by simp) hn ht)
                  rw [hsl]
                  simp only [Instr.slice, Sem.run_bind, run_underlying hu, Result.andThen_ok, hrun, run_sizeOf' e' hinf, Sem.run_pure]
                  split <;> simp [Addr.add_lit]
                · cases h
          · cases h
        · cases h
    · cases h
  · -- an array
    rename_i n e hu
    split at h
    · rename_i b o
      split at h
      · cases h
      rename_i hcnd
      simp only [not_or] at hcnd
      obtain ⟨ie, hinf⟩ := info_of_size (P := P) (t := e) (by omega)
      have hmn : mx' = none := by cases mx' with | none => rfl | some _ => simp at hcnd
      subst hmn
      have e1 : mx = none := by cases mx with | none => rfl | some _ => exact hmx.elim
      subst e1
      split at h
      · rename_i hh hb
        cases hl : bound lo' 0 hh with
        | none => simp [hl] at h
        | some l =>
          simp [hl] at h
          subst h
          cases hx with
          | ptr g _ _ hm =>
            have hrun := run_bounds (P := P) (w := w) (isSlice := false) (len := n) (cap := n) (lo := lo) (hi := hi) (mx := none) hlo hhi (mx' := none) trivial (m0 := n) (m := n) rfl hb hl (Nat.le_refl _) (by simp)
            have l0 := bound_le hl (Nat.zero_le _)
            have h0 := bound_le hb (Nat.le_refl _)
            refine .same hs (v' := .slice (some ⟨g, if n = l then o else o + l * tsize P e, none⟩) (hh - l) (n - l)) ?_ (.msl e g b _ _ _ _ hm (by simp) (by omega) (by simp))
            simp only [Instr.sliceAt, Instr.sureAddr, Sem.run_bind, run_underlying hu, Result.andThen_ok, pure_bind, hrun, run_sizeOf' e hinf, Sem.run_pure]
            simp only [Option.isSome_none, Bool.false_eq_true, if_false]
            split <;> simp [Addr.add_lit]
      · cases h
    · cases h
  · cases h
end
end Go.Ev

set_option linter.unusedSimpArgs false
set_option linter.unusedVariables false
namespace Go.Ev
open Go.RowKit

section
variable {P : Program} {G G' : Mm} {base : Nat} {σ σ' : St} {w w' : World}

/-- A new row of so many elements, of which nothing is written, or which the store writes. -/
theorem newRow_sound (hs : Sim P G base σ w) (e : TypeId) {xs : List V} (hz : Sized (tsize P e) xs) {c : Array Value} (hl : LR G c.toList (flat xs)) :
    (∃ G', G.LE G' ∧ Sim P G' base σ (pushW w (.cells c e)) ∧ VR G' (.slice (some ⟨w.heap.size, 0, none⟩) xs.length xs.length) (.sl .full xs)) ∧
    (∃ G', G.LE G' ∧ Sim P G' base (σ ++ [.cells e (flat xs)]) (pushW w (.cells c e)) ∧ ∀ n m, n ≤ m → VR G' (.slice (some ⟨w.heap.size, 0, none⟩) n m) (.msl e σ.length 0 n (some m))) := by
  constructor
  · have hle : G.LE (addRom G w.heap.size 0 c.toList) := addRom_le fun i _ => hs.romNone (Nat.le_refl _)
    refine ⟨_, hle, hs.pushRom c e (0, 0) c.toList (fun j v h => by rw [← Array.getElem?_toList]; exact h), ?_⟩
    exact .ofFlat hz (d := c.toList) (fun n v h => addRom_at h) (hl.mono hle) (Nat.le_refl _) rfl
  · exact ⟨_, addMu_le (hs.muNone (Nat.le_refl _)), hs.pushCells e hl, fun n m h => .msl e _ _ 0 _ _ _ (by simp [addMu]) (by simp) h (by simp)⟩

theorem VR.toRes {a : Value} {xs : List V} (h : VR G a (.sl .full xs)) (t : Nat) : VR G a (.sl (.res t) xs) := by
  cases h with
  | sl _ _ _ k _ _ f hk h hv hc ht => exact .sl _ _ _ k _ _ f hk h hv hc ht

theorem buildSlice_sound (hs : Sim P G base σ w) {own : Bool} {t : TypeId} {len : Nat} {ps : Array (Nat × Value)} {qs : List (Nat × V)} (hl : LR G (ps.toList.map (·.2)) (qs.map (·.2))) (hi : ps.toList.map (·.1) = qs.map (·.1))
    {v : V} (h : buildSliceV P own t σ len qs = some (v, σ')) : SemOK P G base w (Instr.buildSlice t len ps) v σ' := by
  unfold buildSliceV at h
  split at h
  · rename_i e hu
    split at h
    · rename_i z hz
      split at h
      · rename_i hcnd
        obtain ⟨h1, h2, h3, h4⟩ := hcnd
        obtain ⟨ie, zv, hinf, hz1, hz2⟩ := info_of_zero hz
        split at h
        · rename_i xs hxs
          have hps : ∀ p ∈ qs, (vcells p.2).length = tsize P e := fun p hp => by simpa using List.all_eq_true.1 h4 p hp
          obtain ⟨h5, h6, h7⟩ := listSet_fill (k := tsize P e) (.replicate h1) hps hxs
          have hlen : xs.length = len := by simpa using h7
          have hzs := zeros_sound (VR.ofConst (G := G) hz2) h2 h1 len
          have hzs' : LR G (((Array.range (len * tsize P e)).map (fun i => zv.cells[i % zv.cells.size]!)).toList) (flat (List.replicate len z)) := by simpa using hzs
          obtain ⟨d, hd, hdl⟩ := fill_sound hl hi hzs' h5
          obtain ⟨⟨G1, a1, a2, a3⟩, ⟨G2, b1, b2, b3⟩⟩ := newRow_sound hs e h6 (c := d) hdl
          have hrun : (Instr.buildSlice t len ps).run P w = .ok (.slice (some ⟨w.heap.size, 0, none⟩) len len) (pushW w (.cells d e)) := by
            unfold Instr.buildSlice
            simp only [Sem.run_bind, run_underlying hu, Result.andThen_ok, run_sizeOf' e hinf]
            rw [if_neg (by omega)]
            by_cases h0 : len * tsize P e = 0
            · have hl0 : len = 0 := by rcases Nat.mul_eq_zero.1 h0 with h | h <;> omega
              subst hl0
              simp [Array.range_zero'] at hd
              simp [hd, newRow, pushW, Array.range_zero']
            · rw [if_neg h0]
              simp only [Sem.run_bind, run_zeroValue hinf hz1, Result.andThen_ok, Sem.run_pure]
              rw [hd]
              simp [newRow, pushW]
          rw [hlen] at a3
          split at h
          · split at h
            · rename_i hl0
              cases h
              obtain ⟨⟨G3, c1, c2, c3⟩, -⟩ := newRow_sound (hs.pushTok0 e) e h6 (c := d) hdl
              rw [hlen] at c3
              exact ⟨_, _, G3, hrun, c1, c2, c3.toRes _, pushW_below _ _ hs.big⟩
            · cases h; exact ⟨_, _, G2, hrun, b1, b2, b3 _ _ (Nat.le_refl _), pushW_below _ _ hs.big⟩
          · cases h; exact ⟨_, _, G1, hrun, a1, a2, a3, pushW_below _ _ hs.big⟩
        · cases h
      · cases h
    · cases h
  · cases h

theorem wrap64_id {n : Int} (h0 : 0 ≤ n) (h1 : n ≤ 2 ^ 46) : IntKind.i64.wrap n = n := by
  have e1 : (2 : Int) ^ 46 = 70368744177664 := by decide
  rw [e1] at h1
  have e2 : (2 ^ IntKind.i64.bits : Int) = 18446744073709551616 := by decide
  have e3 : (2 ^ (IntKind.i64.bits - 1) : Int) = 9223372036854775808 := by decide
  unfold IntKind.wrap
  simp only [e2, e3]
  rw [Int.emod_eq_of_lt h0 (by omega)]
  have : ¬ (n ≥ 9223372036854775808) := by omega
  simp [this]

theorem make_sound (hs : Sim P G base σ w) {own : Bool} {t : TypeId} {len cap : Int} {v : V} (h : makeV P own t σ len cap = some (v, σ')) : SemOK P G base w (Instr.makeSlice t (.int .i64 len) (.int .i64 cap)) v σ' := by
  unfold makeV at h
  split at h
  · rename_i e hu
    split at h
    · rename_i z hz
      split at h
      · rename_i hcnd
        obtain ⟨h1, h2, h3, h4, h5⟩ := hcnd
        obtain ⟨ie, zv, hinf, hz1, hz2⟩ := info_of_zero hz
        obtain ⟨f1, f2, f3⟩ := fits_spec h5
        have hb : tbytes P e = ie.bytes := by simp [tbytes, Program.bytesOf, hinf]
        have hc46 : cap ≤ 2 ^ 46 := by have := f3; have e1 : (2 : Int) ^ 46 = ((2 ^ 46 : Nat) : Int) := by decide
                                       rw [e1]; omega
        have hwl : IntKind.i64.wrap len = len := wrap64_id h3 (by omega)
        have hwc : IntKind.i64.wrap cap = cap := wrap64_id (by omega) hc46
        have hbig : ¬ ((ie.bytes : Int) * cap > 2 ^ 48) := by
          have e1 : (ie.bytes : Int) * cap = ((cap.toNat * ie.bytes : Nat) : Int) := by
            rw [Int.natCast_mul, Int.toNat_of_nonneg (by omega), Int.mul_comm]
          rw [e1]
          rw [hb] at f1
          have e2 : (2 : Int) ^ 48 = ((2 ^ 48 : Nat) : Int) := by decide
          rw [e2]
          have : (2 : Nat) ^ 46 ≤ 2 ^ 48 := by decide
          omega
        have hzs := zeros_sound (VR.ofConst (G := G) hz2) h2 h1 cap.toNat
        have hzs' : LR G (((Array.range (cap.toNat * tsize P e)).map (fun i => zv.cells[i % zv.cells.size]!)).toList) (flat (List.replicate cap.toNat z)) := by simpa using hzs
        obtain ⟨⟨G1, a1, a2, a3⟩, ⟨G2, b1, b2, b3⟩⟩ := newRow_sound hs e (.replicate h1) hzs'
        have hrun : (Instr.makeSlice t (.int .i64 len) (.int .i64 cap)).run P w = .ok (.slice (some ⟨w.heap.size, 0, none⟩) len.toNat cap.toNat) (pushW w (.cells ((Array.range (cap.toNat * tsize P e)).map (fun i => zv.cells[i % zv.cells.size]!)) e)) := by
          unfold Instr.makeSlice
          have hti : (typeInfo e).run P w = .ok ie w := by simp [typeInfo, hinf]
          simp only [Sem.run_bind, run_underlying hu, Result.andThen_ok, asInt, asIntOf, Sem.run_pure, hti, hwl, hwc]
          have n1 : ¬ cap < 0 := by omega
          have n2 : ¬ len < 0 := by omega
          have n3 : ¬ len > cap := by omega
          have hcond : (decide (cap < 0) || decide ((ie.bytes : Int) * cap > 2 ^ 48) || decide (len < 0) || decide (len > cap)) = false := by rw [decide_eq_false n1, decide_eq_false hbig, decide_eq_false n2, decide_eq_false n3]; rfl
          rw [if_neg (by rw [hcond]; simp)]
          simp only [Sem.run_bind, run_askRoom, Result.andThen_ok, run_sizeOf' e hinf]
          by_cases h0 : cap.toNat * tsize P e = 0
          · rw [if_pos h0]
            simp [h0, newRow, pushW, Array.range_zero']
          · rw [if_neg h0]
            simp [run_zeroValue hinf hz1, newRow, pushW]
        split at h
        · cases h
          exact ⟨_, _, G2, hrun, b1, b2, b3 _ _ (by omega), pushW_below _ _ hs.big⟩
        · split at h
          · rename_i e1
            subst e1
            cases h
            simp only [List.length_replicate] at a3
            exact ⟨_, _, G1, hrun, a1, a2, a3, pushW_below _ _ hs.big⟩
          · cases h
      · cases h
    · cases h
  · cases h

theorem ba_beq (a b : ByteArray) : (a == b) = true ↔ a = b := by
  cases a; cases b
  rename_i a b
  show (a == b) = true ↔ _
  simp

theorem ba_beq_self (a : ByteArray) : (a == a) = true := (ba_beq a a).2 rfl

/-! ### Maps -/
theorem plainKey_spec {t : TypeId} {d : TypeDesc} (h : plainKey P t = some d) : P.underlying t = some d ∧ ((∃ k, d = .int k) ∨ d = .string) := by
  unfold plainKey at h
  split at h
  · rename_i k hu; cases h; exact ⟨hu, .inl ⟨k, rfl⟩⟩
  · rename_i hu; cases h; exact ⟨hu, .inr rfl⟩
  · cases h

theorem keyEq_spec {d : TypeDesc} {x y : Value} {a b : V} (hx : VR G x a) (hy : VR G y b) {r : Bool} (h : keyEq d a b = some r) : Instr.sameNow d x y = some r ∧ (r = true → Instr.sameBits 10000 y x = true ∧ x = y) := by
  unfold keyEq at h
  split at h
  · rename_i k0 k m k' n
    cases hx; cases hy
    split at h
    · rename_i e
      subst e
      cases h
      refine ⟨by simp [Instr.sameNow], fun hr => ?_⟩
      have : m = n := by simpa using hr
      subst this
      exact ⟨by simp [Instr.sameBits], rfl⟩
    · cases h
  · rename_i s s'
    cases hx; cases hy
    cases h
    refine ⟨by simp [Instr.sameNow], fun hr => ?_⟩
    have : s = s' := (ba_beq s s').1 hr
    subst this
    exact ⟨by simp [Instr.sameBits, ba_beq_self], rfl⟩
  · cases h

theorem findM_sound {d : TypeDesc} {x : Value} {k : V} (hx : VR G x k) : ∀ {ces : List MapEntry} {es : List (V × V)} (i : Nat) {r : Option (Nat × V)}, LR G (ces.map (·.key)) (es.map (·.1)) → LR G (ces.map (·.val)) (es.map (·.2)) → findM d k es i = some r →
    ∃ r', Instr.findNow d x ces i = some r' ∧ (match r', r with
      | none, none => True
      | some (j, u), some (j', v) => j = j' ∧ VR G u v ∧ i ≤ j ∧ ∃ ce, ces[j - i]? = some ce ∧ ce.key = x
      | _, _ => False)
  | [], es, i, r, h1, h2, h => by
    have : es = [] := by have := h1.len; simp at this; exact List.eq_nil_of_length_eq_zero this.symm
    subst this
    simp [findM] at h
    subst h
    exact ⟨none, by simp [Instr.findNow], trivial⟩
  | ce :: ces, es, i, r, h1, h2, h => by
    cases es with
    | nil => have := h1.len; simp at this
    | cons e es =>
      simp only [List.map_cons] at h1 h2
      unfold findM at h
      cases hk : keyEq d k e.1 with
      | none => simp [hk] at h
      | some b =>
        obtain ⟨h3, h4⟩ := keyEq_spec hx h1.head hk
        rw [hk] at h
        unfold Instr.findNow
        rw [h3]
        cases b with
        | true =>
          simp at h
          subst h
          exact ⟨some (i, ce.val), rfl, rfl, h2.head, Nat.le_refl _, ce, by simp, (h4 rfl).2.symm⟩
        | false =>
          simp only at h
          obtain ⟨r', h5, h6⟩ := findM_sound hx (i + 1) h1.tail h2.tail h
          refine ⟨r', h5, ?_⟩
          cases r' with
          | none => cases r with
            | none => trivial
            | some _ => exact h6
          | some p => cases r with
            | none => exact h6
            | some q =>
              obtain ⟨a, b, c, ce', d1, d2⟩ := h6
              refine ⟨a, b, by omega, ce', ?_, d2⟩
              rw [show p.1 - i = (p.1 - (i + 1)) + 1 from by omega]
              simpa using d1

theorem run_checkKey {t : TypeId} {d : TypeDesc} (hu : P.underlying t = some d) (hd : (∃ k, d = .int k) ∨ d = .string) {em : Bool} {x : Value} : (Instr.checkKey em 10000 t x).run P w = .ok () w := by
  unfold Instr.checkKey
  rcases hd with ⟨k, rfl⟩ | rfl <;> simp [run_underlying hu]

theorem run_findKey {t : TypeId} {d : TypeDesc} (hu : P.underlying t = some d) {x : Value} {ces : List MapEntry} {r : Option (Nat × Value)} (h : Instr.findNow d x ces 0 = some r) : (Instr.findKey t x ces).run P w = .ok r w := by
  simp [Instr.findKey, run_underlying hu, h]

theorem Sim.mapAt (hs : Sim P G base σ w) {b : Nat} {es : List (V × V)} (h : σ[b]? = some (.map es)) :
    ∃ g ces cl, G.mu b = some g ∧ w.heap[g]? = some (.map ces cl) ∧ LR G (ces.toList.map (·.key)) (es.map (·.1)) ∧ LR G (ces.toList.map (·.val)) (es.map (·.2)) := by
  obtain ⟨g, hm, hc⟩ := hs.obj b _ h
  unfold MapR at hc
  split at hc
  · rename_i ces cl hh; exact ⟨g, ces, cl, hm, hh, hc.1, hc.2⟩
  · exact hc.elim

theorem run_getObj {g : Nat} {o : Obj} (h : w.heap[g]? = some o) (hc : ∀ c e f, o ≠ .cells c e f) : (getObj g).run P w = .ok o w := by
  cases o <;> first | exact absurd rfl (hc _ _ _) | simp [getObj, Sem.run, h]
theorem run_setObj {g : Nat} {o o' : Obj} (h : w.heap[g]? = some o) (hc : ∀ c e f, o ≠ .cells c e f) : (setObj g o').run P w = .ok () (setBlk w g o') := by
  cases o <;> first | exact absurd rfl (hc _ _ _) | simp [setObj, Sem.run, h, setBlk]

theorem lookup_sound (hs : Sim P G base σ w) {t : TypeId} {x y : Value} {m k v : V} (hx : VR G x m) (hy : VR G y k) {ok : Bool} (h : lookupV P σ t m k ok = some v) : SemOK P G base w (Instr.lookup t x y ok) v σ := by
  unfold lookupV at h
  split at h
  · rename_i key e hu
    split at h
    · rename_i d es hd hes
      obtain ⟨hud, hd'⟩ := plainKey_spec hd
      have key' : ∃ ces : Array MapEntry, LR G (ces.toList.map (·.key)) (es.map (·.1)) ∧ LR G (ces.toList.map (·.val)) (es.map (·.2)) ∧
          ((x = .map none ∧ ces = #[]) ∨ ∃ g cl, x = .map (some g) ∧ (getObj g).run P w = .ok (.map ces cl) w) := by
        unfold mapOf at hes
        split at hes
        · cases hes; cases hx; exact ⟨#[], LR.nil, LR.nil, .inl ⟨rfl, rfl⟩⟩
        · rename_i b
          cases hx with
          | map g _ hm =>
            split at hes
            · rename_i es' hb
              cases hes
              obtain ⟨g', ces, cl, hm', hh, h1, h2⟩ := hs.mapAt hb
              rw [hm] at hm'; cases hm'
              exact ⟨ces, h1, h2, .inr ⟨g, cl, rfl, run_getObj hh (by simp)⟩⟩
            · cases hes
        · cases hes
      obtain ⟨ces, h1, h2, h3⟩ := key'
      cases hf : findM d k es 0 with
      | none => simp [hf] at h
      | some r =>
        obtain ⟨r', h4, h5⟩ := findM_sound hy 0 h1 h2 hf
        simp only [hf] at h
        cases r with
        | none =>
          cases r' with
          | some _ => exact h5.elim
          | none =>
            simp only at h
            cases hz : zeroOf P e with
            | none => simp [hz] at h
            | some z =>
              obtain ⟨ie, zv, hinf, hz1, hz2⟩ := info_of_zero hz
              simp [hz] at h
              have hzr : VR G zv z := VR.ofConst hz2
              refine .same hs (v' := if ok then .tuple #[zv, .bool false] else zv) ?_ ?_
              · rcases h3 with ⟨rfl, rfl⟩ | ⟨g, cl, rfl, h3⟩
                · simp only [Instr.lookup, Sem.run_bind, run_underlying hu, Result.andThen_ok, run_checkKey hud hd', run_findKey hud h4, run_zeroValue hinf hz1, Sem.run_pure, pure_bind]
                · simp only [Instr.lookup, Sem.run_bind, run_underlying hu, Result.andThen_ok, h3, run_checkKey hud hd', run_findKey hud h4, run_zeroValue hinf hz1, Sem.run_pure, pure_bind]
              · subst h
                cases ok with
                | true => simp only [if_true]; exact .tup _ _ rfl (LR.cons hzr (LR.one (.bool false))).at_
                | false => exact hzr
        | some p =>
          cases r' with
          | none => exact h5.elim
          | some p' =>
            obtain ⟨j, u⟩ := p'
            obtain ⟨j', vv⟩ := p
            obtain ⟨e1, h6, _⟩ := h5
            simp at h
            refine .same hs (v' := if ok then .tuple #[u, .bool true] else u) ?_ ?_
            · rcases h3 with ⟨rfl, rfl⟩ | ⟨g, cl, rfl, h3⟩
              · simp only [Instr.lookup, Sem.run_bind, run_underlying hu, Result.andThen_ok, run_checkKey hud hd', run_findKey hud h4, Sem.run_pure, pure_bind]
              · simp only [Instr.lookup, Sem.run_bind, run_underlying hu, Result.andThen_ok, h3, run_checkKey hud hd', run_findKey hud h4, Sem.run_pure, pure_bind]
            · subst h
              cases ok with
              | true => simp only [if_true]; exact .tup _ _ rfl (LR.cons h6 (LR.one (.bool true))).at_
              | false => exact h6
    · cases h
  · cases h

/-- The object at a block that is no row of cells turns. -/
theorem Sim.turn (hs : Sim P G base σ w) {b : Nat} {o o' : AObj} (hb : σ[b]? = some o) {g : Nat} (hm : G.mu b = some g) (hblk : ∀ H : Mm, Blk H b o = fun g => H.mu b = some g) (hblk' : ∀ H : Mm, Blk H b o' = fun g => H.mu b = some g) {ob ob' : Obj} (hh : w.heap[g]? = some ob)
    (hc : ∀ c e f, ob ≠ .cells c e f) (hd : ∀ d, ob ≠ .deferred d) (hr : ObjR P G (setBlk w g ob') b o') : Sim P G base (σ.set b o') (setBlk w g ob') := by
  have hbl : b < σ.length := (List.getElem?_eq_some_iff.1 hb).1
  have hbk : Blk G b o g := by rw [hblk]; exact hm
  have hbase : base ≤ g := hs.above b _ g hb hbk
  have hlt := (Array.getElem?_eq_some_iff.1 hh).1
  have hrom : ∀ i v, G.rom g i = some v → False := fun i v hv => by
    have := hs.rom g i v hv
    unfold World.cell? at this
    rw [hh] at this
    cases ob <;> simp at this
    exact hc _ _ _ rfl
  refine hs.master g hbase (setBlk_ne w g _) (by rw [setBlk_size]; exact hs.big) (.refl _) (fun k i v hv _ => hv) (fun i v hv => (hrom i v hv).elim) (fun x k hx => by simpa using hs.mulen x k hx)
    (fun t n p hp => by simpa using hs.tklen t n p hp) (fun r hr' => .inl ⟨hr', fun e' => ?_⟩) (fun x ob1 hx => ?_) (fun x o1 x' o2 hx hx' hbx hbx' => ?_)
  · have := (hs.res r hr').1; rw [e', hh] at this; cases this; exact hd _ rfl
  · by_cases e' : x = b
    · subst e'
      rw [List.getElem?_set_self hbl] at hx
      cases hx
      refine .inr ⟨hr, fun k hk => ?_⟩
      rw [hblk'] at hk
      rw [hm] at hk; cases hk; rfl
    · rw [List.getElem?_set_ne (by omega)] at hx
      exact .inl ⟨hx, fun hk => e' (hs.uniq x ob1 b _ g hx hb hk hbk), fun n p hp => hp, fun k hk => hk⟩
  · have key : ∀ (x : Nat) o1, (σ.set b o')[x]? = some o1 → Blk G x o1 g → x = b := by
      intro x o1 hx hbx
      by_cases e' : x = b
      · exact e'
      · rw [List.getElem?_set_ne (by omega)] at hx
        exact hs.uniq x o1 b _ g hx hb hbx hbk
    rw [key _ _ hx hbx, key _ _ hx' hbx']

theorem update_sound (hs : Sim P G base σ w) {t : TypeId} {x y z : Value} {m k v : V} (hx : VR G x m) (hy : VR G y k) (hz : VR G z v) (h : updateV P σ t m k v = some σ') :
    ∃ w', (Instr.mapUpdate t x y z).run P w = .ok () w' ∧ Sim P G base σ' w' ∧ Below base w w' := by
  unfold updateV at h
  split at h
  · rename_i key e b hu
    split at h
    · rename_i d es hd hb
      obtain ⟨hud, hd'⟩ := plainKey_spec hd
      cases hx with
      | map g _ hm =>
        obtain ⟨g', ces, cl, hm', hh, h1, h2⟩ := hs.mapAt hb
        rw [hm] at hm'; cases hm'
        have hbase : base ≤ g := hs.above b _ g hb hm
        have hlt := (Array.getElem?_eq_some_iff.1 hh).1
        cases hf : findM d k es 0 with
        | none => simp [hf] at h
        | some r =>
          obtain ⟨r', h4, h5⟩ := findM_sound hy 0 h1 h2 hf
          simp only [hf] at h
          cases r with
          | none =>
            cases r' with
            | some _ => exact h5.elim
            | none =>
              simp at h
              subst h
              refine ⟨setBlk w g (.map (ces.push { key := y, val := z, born := cl }) (cl + 1)), ?_, ?_, setBlk_below _ _ _ hbase⟩
              · simp only [Instr.mapUpdate, Sem.run_bind, run_underlying hu, Result.andThen_ok, run_getObj hh (by simp), run_checkKey hud hd', run_findKey hud h4, run_setObj hh (by simp)]
              · refine hs.turn hb hm (fun _ => rfl) (fun _ => rfl) hh (by simp) (by simp) ⟨g, hm, ?_⟩
                rw [setBlk_at _ _ _ hlt]
                exact ⟨by simpa using h1.append (LR.one hy), by simpa using h2.append (LR.one hz)⟩
          | some p =>
            cases r' with
            | none => exact h5.elim
            | some p' =>
              obtain ⟨j, u⟩ := p'
              obtain ⟨j', vv⟩ := p
              obtain ⟨rfl, h6, _, ce, hce, hck⟩ := h5
              simp at h
              subst h
              have hce' : ces[j]? = some ce := by rw [← Array.getElem?_toList]; simpa using hce
              have hsb : Instr.sameBits 10000 ce.key y = true := by
                rw [hck]
                have hk0 := h1.at_ j y
                rcases hd' with ⟨kk, rfl⟩ | rfl
                · cases hy <;> first | (simp [Instr.sameBits]; done) | skip
                  all_goals
                    exfalso
                    unfold findM at hf
                    cases es with
                    | nil => simp [findM] at hf
                    | cons e0 es => simp [findM, keyEq] at hf
                · cases hy <;> first | (simp [Instr.sameBits, ba_beq_self]; done) | skip
                  all_goals
                    exfalso
                    unfold findM at hf
                    cases es with
                    | nil => simp [findM] at hf
                    | cons e0 es => simp [findM, keyEq] at hf
              refine ⟨setBlk w g (.map (ces.modify j fun e => { e with key := y, val := z }) cl), ?_, ?_, setBlk_below _ _ _ hbase⟩
              · simp only [Instr.mapUpdate, Sem.run_bind, run_underlying hu, Result.andThen_ok, run_getObj hh (by simp), run_checkKey hud hd', run_findKey hud h4, Instr.keyThatStays, hce', Option.map_some, Option.getD_some, hsb, if_true, Sem.run_pure, run_setObj hh (by simp)]
              · refine hs.turn hb hm (fun _ => rfl) (fun _ => rfl) hh (by simp) (by simp) ⟨g, hm, ?_⟩
                rw [setBlk_at _ _ _ hlt]
                have e1 : ∀ {β : Type} (f : MapEntry → β) (b0 : β), (∀ bn, f { key := y, val := z, born := bn } = b0) → ((ces.modify j fun e => { e with key := y, val := z }).toList.map f) = (ces.toList.map f).set j b0 := by
                  intro β f b0 hf0
                  apply List.ext_getElem?
                  intro i
                  rw [List.getElem?_map, Array.getElem?_toList, Array.getElem?_modify, List.getElem?_set, List.getElem?_map, Array.getElem?_toList]
                  by_cases hij : j = i
                  · subst hij
                    have hjl : j < ces.size := (Array.getElem?_eq_some_iff.1 hce').1
                    simp [hce', hjl, hf0]
                  · simp [hij]
                refine ⟨?_, ?_⟩
                · rw [e1 (·.key) y (fun _ => rfl), List.map_set]; exact h1.set j hy
                · rw [e1 (·.val) z (fun _ => rfl), List.map_set]; exact h2.set j hz
    · cases h
  · cases h
end
end Go.Ev

set_option linter.unusedSimpArgs false
set_option linter.unusedVariables false
namespace Go.Ev
open Go.RowKit

section
variable {P : Program} {G G' : Mm} {base : Nat} {σ σ' : St} {w w' : World}

theorem underlying_of_eqV {d : Nat} {t : TypeId} {a b : V} {r : Bool} (h : eqV P d t a b = some r) : ∃ u, P.underlying t = some u := by
  cases d with
  | zero => simp [eqV] at h
  | succ d =>
    unfold eqV at h
    split at h <;> first | exact ⟨_, by assumption⟩ | cases h

set_option maxHeartbeats 2000000 in
theorem eqV_sound {d : Nat} {t : TypeId} {x y : Value} {a b : V} {r : Bool} (hx : VR G x a) (hy : VR G y b) (h : eqV P d t a b = some r) : (Op.equalIn d t x y).run P w = .ok r w := by
  induction d generalizing t x y a b r with
  | zero => simp [eqV] at h
  | succ d IH =>
    unfold eqV at h
    split at h
    · rename_i hu; cases hx; cases hy; cases h; simp [Op.equalIn, run_underlying hu]
    · rename_i k0 k m k' n hu
      cases hx; cases hy
      split at h
      · rename_i e; subst e; cases h; simp [Op.equalIn, run_underlying hu]
      · cases h
    · rename_i hu; cases hx; cases hy; cases h; simp [Op.equalIn, run_underlying hu]
    · rename_i hu; cases hx; cases hy; cases h; simp [Op.equalIn, run_underlying hu]
    · rename_i hu; cases hx; cases hy; cases h; simp [Op.equalIn, run_underlying hu]
    · rename_i hu; cases hx; cases hy; cases h; simp [Op.equalIn, run_underlying hu]
    · rename_i hu; cases hx; cases hy; cases h; simp [Op.equalIn, run_underlying hu]
    · rename_i hu; cases hx; cases hy; cases h; simp [Op.equalIn, run_underlying hu]
    · rename_i hu; cases hx; cases hy; cases h; simp [Op.equalIn, run_underlying hu]
    · rename_i hu; cases hx; cases hy; cases h; simp [Op.equalIn, run_underlying hu]
    · rename_i hu; cases hx; cases hy; cases h; simp [Op.equalIn, run_underlying hu]
    · rename_i hu; cases hx; cases hy; cases h; simp [Op.equalIn, run_underlying hu]
    · rename_i hu; cases hx; cases hy; cases h; simp [Op.equalIn, run_underlying hu]
    · rename_i hu; cases hx; cases hy; cases h; simp [Op.equalIn, run_underlying hu]
    · rename_i hu; cases hx; cases hy; cases h; simp [Op.equalIn, run_underlying hu]
    · rename_i hu; cases hx; cases hy; cases h; simp [Op.equalIn, run_underlying hu]
    · rename_i hu; cases hx; cases hy; cases h; simp [Op.equalIn, run_underlying hu]
    · rename_i hu; cases hx; cases hy; cases h; simp [Op.equalIn, run_underlying hu]
    · rename_i hu; cases hx; cases hy; cases h; simp [Op.equalIn, run_underlying hu]
    · rename_i hu; cases hx; cases hy; cases h; simp [Op.equalIn, run_underlying hu]
    · rename_i fs xs ys hu
      cases hx with
      | agg cs _ hl1 hv1 =>
      cases hy with
      | agg ds _ hl2 hv2 =>
      split at h
      · cases h
      rename_i hst
      have hf : P.fieldsOf t = fs := by simp [Program.fieldsOf, hu]
      rw [run_equalIn_struct w d t cs ds (by rw [hf]; exact hu) (by simpa using hst), hf]
      have gen : ∀ (l : List Field) (r : Bool), eqV.goS P d xs ys l = some r → (Op.eqFields d cs ds l).run P w = .ok r w := by
        intro l
        induction l with
        | nil => intro r h; simp [eqV.goS] at h; subst h; simp [Op.eqFields]
        | cons f l ih =>
          intro r h
          unfold eqV.goS at h
          split at h
          · cases h
          rename_i hname
          split at h
          · rename_i a b ha hb
            cases he : eqV P d f.type a b with
            | none => simp [he] at h
            | some q =>
              obtain ⟨u, hu'⟩ := underlying_of_eqV he
              obtain ⟨a', hra, hva⟩ := run_part (P := P) (w := w) hu' (LR.mk hl1 hv1) ha
              obtain ⟨b', hrb, hvb⟩ := run_part (P := P) (w := w) hu' (LR.mk hl2 hv2) hb
              have := IH hva hvb he
              unfold Op.eqFields
              rw [if_pos hname]
              simp only [Sem.run_bind, hra, hrb, this, Result.andThen_ok]
              rw [he] at h
              cases q with
              | true => simp only at h; simp [ih r h]
              | false => simp only [Option.some.injEq] at h; subst h; simp
          · cases h
      exact gen _ _ h
    · cases h

theorem binInt_sound {op : BinOp} {t : TypeId} {k : IntKind} {a b : Int} {v : V} (h : binInt op k a b = some v) : ∃ v', (binOp op t (.int k a) (.int k b)).run P w = .ok v' w ∧ VR G v' v := by
  unfold binInt at h
  split at h <;> first
    | (cases h; exact ⟨_, by simp [binOp, Op.intArith, Op.intBits, Op.intCmp]; rfl, by constructor⟩)
    | (cases h; exact ⟨_, by rw [binOp_andNot]; rfl, by constructor⟩)
    | (split at h
       · cases h
       · rename_i hb; cases h; exact ⟨_, by simp [binOp, Op.intDiv, hb]; rfl, by constructor⟩)
    | cases h

theorem binStr_sound {op : BinOp} {t : TypeId} {a b : ByteArray} {v : V} (h : binStr op a b = some v) : ∃ v', (binOp op t (.string a) (.string b)).run P w = .ok v' w ∧ VR G v' v := by
  unfold binStr at h
  split at h <;> first
    | (cases h; exact ⟨_, by simp only [binOp, Op.stringOp, Sem.run_pure]; rfl, by constructor⟩)
    | (split at h
       · cases h
       · rename_i hb; cases h; exact ⟨_, by simp only [binOp, Op.stringOp]; rw [if_neg hb]; rfl, by constructor⟩)
    | cases h

theorem eq_run {t : TypeId} {ox oy : Operand} {x y : Value} {a b : V} {r : Bool} (hx : VR G x a) (hy : VR G y b) (he : eqV P Op.maxDepth t a b = some r) (hg : binV.guard P t ox oy a b = true)
    (hni : ∀ k m k' n, a = .int k m → b = .int k' n → False) (hns : ∀ s s', a = .str s → b = .str s' → False) :
    (do eqGuard .eql t ox oy x y; binOp .eql t x y).run P w = .ok (.bool r) w ∧ (do eqGuard .neq t ox oy x y; binOp .neq t x y).run P w = .ok (.bool (!r)) w := by
  have heq : (Op.equal t x y).run P w = .ok r w := eqV_sound hx hy he
  rw [show Op.maxDepth = 9999 + 1 from rfl] at he
  unfold eqV at he
  split at he
  case h_2 => exact (hni _ _ _ _ rfl rfl).elim
  case h_3 => exact (hns _ _ rfl rfl).elim
  case h_21 =>
    cases hx; cases hy
    simp only [binV.guard, Bool.not_eq_true'] at hg
    constructor <;> simp [binOp, run_eqGuard_agg _ _ _ _ _ _ _ hg, heq]
  case h_7 =>
    cases hx; cases hy
    simp only [binV.guard, Bool.or_eq_true] at hg
    have hgd : eqGuard .eql t ox oy .nilIface .nilIface = pure () := by
      cases ox <;> cases oy <;> first | rfl | (simp at hg; done)
    have hgd' : eqGuard .neq t ox oy .nilIface .nilIface = pure () := by
      cases ox <;> cases oy <;> first | rfl | (simp at hg; done)
    constructor <;> simp [binOp, hgd, hgd', heq]
  case h_22 => cases he
  all_goals
    cases hx; cases hy
    constructor <;> simp [binOp, heq, eqGuard_at_bool, eqGuard_at_pointer, eqGuard_nil_iface, eqGuard_at_iface, eqGuard_at_slice, eqGuard_at_func, eqGuard_at_nilFunc, eqGuard_at_map]

theorem bin_sound (hs : Sim P G base σ w) {op : BinOp} {t : TypeId} {ox oy : Operand} {x y : Value} {a b v : V} (hx : VR G x a) (hy : VR G y b) (h : binV P op t ox oy a b = some v) :
    SemOK P G base w (do eqGuard op t ox oy x y; binOp op t x y) v σ := by
  unfold binV at h
  split at h
  · split at h
    · cases h
    · rename_i hb
      cases h; cases hx; cases hy
      exact .same hs (by simp [eqGuard, binOp, Op.shift, hb]; rfl) (by constructor)
  · split at h
    · cases h
    · rename_i hb
      cases h; cases hx; cases hy
      exact .same hs (by simp [eqGuard, binOp, Op.shift, hb]; rfl) (by constructor)
  · split at h
    · rename_i e
      subst e
      cases hx; cases hy
      obtain ⟨v', hr, hv⟩ := binInt_sound (P := P) (G := G) (w := w) (t := t) h
      exact .same hs (by rw [eqGuard_at_int]; simpa using hr) hv
    · cases h
  · cases hx; cases hy
    obtain ⟨v', hr, hv⟩ := binStr_sound (P := P) (G := G) (w := w) (t := t) h
    exact .same hs (by rw [eqGuard_at_string]; simpa using hr) hv
  · rename_i h1 h2
    split at h
    · rename_i hg
      cases he : eqV P Op.maxDepth t a b with
      | none => simp [he] at h
      | some r =>
        simp [he] at h
        subst h
        exact .same hs (eq_run hx hy he hg h1 h2).1 (.bool r)
    · cases h
  · rename_i h1 h2
    split at h
    · rename_i hg
      cases he : eqV P Op.maxDepth t a b with
      | none => simp [he] at h
      | some r =>
        simp [he] at h
        subst h
        exact .same hs (eq_run hx hy he hg h1 h2).2 (.bool (!r))
    · cases h
  · cases h

theorem un_sound (hs : Sim P G base σ w) {op : UnOp} {x : Value} {a v : V} (hx : VR G x a) (h : unV op a = some v) : SemOK P G base w (Op.unary op x) v σ := by
  unfold unV at h
  split at h
  · cases h; cases hx; rename_i k n; exact .same hs (v' := .int k (k.wrap (0 - n))) rfl (.int _ _)
  · cases h; cases hx; rename_i k n; exact .same hs (v' := .int k (k.wrap (BitVec.ofInt k.bits (if k.signed then -1 else k.max) ^^^ BitVec.ofInt k.bits n).toNat)) rfl (.int _ _)
  · cases h; cases hx; rename_i b; exact .same hs (v' := .bool !b) rfl (.bool _)
  · cases h
end
end Go.Ev

set_option linter.unusedSimpArgs false
set_option linter.unusedVariables false
namespace Go.Ev
open Go.RowKit

section
variable {P : Program} {G G' : Mm} {base : Nat} {σ σ' : St} {w w' : World}

theorem foldl_push (ns : List Int) : ∀ acc : ByteArray, ns.foldl (fun r n => r.push (UInt8.ofNat n.toNat)) acc = ⟨(acc.data.toList ++ ns.map fun n => UInt8.ofNat n.toNat).toArray⟩ := by
  induction ns with
  | nil => intro acc; simp
  | cons n ns ih =>
    intro acc
    simp only [List.foldl_cons, ih, List.map_cons]
    congr 1
    show ((acc.data.push _).toList ++ _).toArray = _
    simp

theorem bytes_of_all : ∀ {vs : List V}, vs.all isByte = true → ∃ ns : List Int, vs = ns.map (V.int .u8)
  | [], _ => ⟨[], rfl⟩
  | v :: vs, h => by
    simp only [List.all_cons, Bool.and_eq_true] at h
    obtain ⟨ns, rfl⟩ := bytes_of_all h.2
    have h1 := h.1
    unfold isByte at h1
    split at h1
    · rename_i n; exact ⟨n :: ns, rfl⟩
    · cases h1

theorem bytes_flat (ns : List Int) : flat (ns.map (V.int .u8)) = ns.map (V.int .u8) := by
  induction ns with
  | nil => rfl
  | cons n ns ih => simp only [flat, List.map_cons, List.flatMap_cons] at ih ⊢; rw [ih]; rfl

theorem bytes_sized (ns : List Int) : Sized 1 (ns.map (V.int .u8)) := fun x hx => by
  obtain ⟨n, _, rfl⟩ := List.mem_map.1 hx; rfl

theorem LR.ints {k : IntKind} : ∀ {xs : List Value} {ns : List Int}, LR G xs (ns.map (V.int k)) → xs = ns.map (Value.int k)
  | [], ns, h => by have := h.len; simp at this; subst_vars; simp [List.eq_nil_of_length_eq_zero this.symm]
  | x :: xs, [], h => by have := h.len; simp at this
  | x :: xs, n :: ns, h => by
    simp only [List.map_cons] at h ⊢
    rw [LR.ints h.tail]
    have := h.head
    cases this
    rfl

theorem strOf_sound (hs : Sim P G base σ w) {s d e : TypeId} {x : Value} {a v : V} (hx : VR G x a) (hus : P.underlying s = some (.slice e)) (hud : P.underlying d = some .string) (hue : P.underlying e = some (.int .u8))
    (h : strOf P σ e a = some v) : SemOK P G base w (convert s d x) v σ := by
  unfold strOf at h
  split at h
  · rename_i h1
    obtain ⟨h1, hns⟩ := h1
    cases hvs : viewS P σ a with
    | none => simp [hvs] at h
    | some vs =>
      simp only [hvs, Option.bind_some, strOfBytes] at h
      split at h
      · rename_i hall
        cases h
        obtain ⟨ns, rfl⟩ := bytes_of_all hall
        obtain ⟨f, hlen, hcells, hl⟩ := hs.source hx (by omega) hvs (bytes_sized ns)
        rw [bytes_flat] at hl
        have hf := hl.ints
        have hstr : (ns.map (V.int .u8)).map byteOf = ns.map fun n => UInt8.ofNat n.toNat := by simp [byteOf]
        rw [hstr]
        have hx' : (∃ b l c, x = .slice (some b) l c ∧ l = ns.length) ∨ (x = .slice none 0 0 ∧ ns = []) := by
          cases hx <;> simp [viewS] at hvs
          · simp [isStr] at hns
          · rename_i g o cap k tk xs f hk hr hv hc ht; subst hvs; exact .inl ⟨_, _, _, rfl, by simp⟩
          · rename_i e' g b o n cap c hm hc hn ht
            refine .inl ⟨_, _, _, rfl, ?_⟩
            cases hrd : rdCells σ b o (n * tsize P e') with
            | none => simp [hrd] at hvs
            | some cs =>
              simp only [hrd, Option.bind_some] at hvs
              have hcl : cs.length = n * tsize P e' := by
                unfold rdCells at hrd
                split at hrd
                · split at hrd
                  · cases hrd; simp; omega
                  · cases hrd
                · cases hrd
              have := (chunks_flat hvs (by omega)).2.2
              simpa using this.symm
          · exact .inr ⟨rfl, by simpa using hvs.symm⟩
        have hconv : (convert s d x).run P w = (Conv.bytesToString x).run P w := by
          rcases hx' with ⟨b, l, c, rfl, _⟩ | ⟨rfl, _⟩ <;> simp [convert, run_underlying hus, run_underlying hud, run_underlying hue]
        refine .same hs (v' := .string ⟨(ns.map fun n => UInt8.ofNat n.toNat).toArray⟩) ?_ (.str _)
        rw [hconv]
        rcases hx' with ⟨b, l, c, rfl, rfl⟩ | ⟨rfl, rfl⟩
        · have := hcells ns.length (by simp)
          simp only [Builtin.firstCells, Nat.mul_one, h1] at this
          simp only [List.length_map, Nat.mul_one] at hf
          rw [hf] at this
          rw [run_bytesToString w b _ c ns this, foldl_push]
          simp
        · simp [Conv.bytesToString]; rfl
      · cases h
  · cases h

theorem conv_sound (hs : Sim P G base σ w) {own : Bool} {s d : TypeId} {x : Value} {a v : V} (hx : VR G x a) (h : convV P own σ s d a = some (v, σ')) : SemOK P G base w (convert s d x) v σ' := by
  unfold convV at h
  split at h
  · rename_i us k n k' hus hud
    cases h; cases hx
    exact .same hs (v' := .int k (k.wrap k')) (by simp [convert, run_underlying hus, run_underlying hud, Conv.intToInt]) (.int _ _)
  · rename_i us s' hus hud
    cases h; cases hx
    exact .same hs (v' := .string s') (by simp [convert, run_underlying hus, run_underlying hud]) (.str _)
  · rename_i us e s' hus hud
    cases hx
    split at h
    · rename_i hue
      split at h
      · rename_i h1
        have hrun := Lib.run_convert_string_bytes (P := P) w s d e s' hus hud hue
        have hne := Lib.bytesWorld_at_old w e s'
        have hat := Lib.bytesWorld_at_new w e s'
        have hsz := Lib.bytesWorld_size w e s'
        have hge : s'.size ≤ grownCap w s'.size 0 e := by simp [grownCap, Question.cut]
        have hcs : (Lib.bytesCells w e s').size = grownCap w s'.size 0 e := by
          have : s'.data.size = s'.size := rfl
          simp [Lib.bytesCells, this]; omega
        have hlr : LR G ((Lib.bytesCells w e s').toList.take s'.size) (s'.data.toList.map fun c => .int .u8 c.toNat) := by
          have e1 : (Lib.bytesCells w e s').toList.take s'.size = s'.data.toList.map fun c => Value.int .u8 c.toNat := by
            have : s'.data.toList.length = s'.size := by simp
            simp only [Lib.bytesCells, Array.toList_append, Array.toList_map]
            rw [List.take_append_of_le_length (by simp), List.take_of_length_le (by simp)]
          rw [e1]
          generalize s'.data.toList = l
          induction l with
          | nil => exact LR.nil
          | cons c l ih => exact LR.cons (.int _ _) ih
        have hwne : ∀ k, k ≠ w.heap.size → (Lib.bytesWorld w e s').heap[k]? = w.heap[k]? := by
          intro k hk
          rcases Nat.lt_or_ge k w.heap.size with hl | hl
          · exact hne k hl
          · rw [Array.getElem?_eq_none (by omega), Array.getElem?_eq_none hl]
        have hB : Below base w (Lib.bytesWorld w e s') := ⟨rfl, rfl, rfl, by omega, fun k hk => hwne k (by have := hs.big; omega)⟩
        have hbig : base ≤ (Lib.bytesWorld w e s').heap.size := by have := hs.big; omega
        split at h
        · cases h
          obtain ⟨g1, g2⟩ := hs.adoptGrow (w' := Lib.bytesWorld w e s') e (c := Lib.bytesCells w e s') (cs := s'.data.toList.map fun c => .int .u8 c.toNat) s'.size (grownCap w s'.size 0 e) w.heap.size
            (by have : s'.data.size = s'.size := rfl
                simp [hcs]; omega) (by have : s'.data.toList.length = s'.size := by simp
                                       simp only [List.length_map, this]; exact hlr) (by rw [h1, hcs]; omega) _ (fun i hi => by simp; omega)
            (fun b o h hb => absurd (hs.lt h hb) (by omega)) (fun r hr => hs.resNe hr) (fun i => hs.romNone (Nat.le_refl _)) hs.big hwne hat hbig
          exact ⟨_, _, _, hrun, g1, g2, .msl e _ _ 0 _ _ none (by simp [addTk, addMu]) (by simp) hge (fun _ => by simp [addTk]), hB⟩
        · cases h
          have hp := hs.pushRom (Lib.bytesCells w e s') e ((Lib.bytesCells w e s').size, (Lib.bytesCells w e s').size + 1) ((Lib.bytesCells w e s').toList.take s'.size) (fun j v hv => by
            rw [List.getElem?_take] at hv
            split at hv
            · rw [← Array.getElem?_toList]; exact hv
            · cases hv)
          have hle : G.LE (addRom G w.heap.size 0 ((Lib.bytesCells w e s').toList.take s'.size)) := addRom_le fun i _ => hs.romNone (Nat.le_refl _)
          have hp' : Sim P (addRom G w.heap.size 0 ((Lib.bytesCells w e s').toList.take s'.size)) base σ (Lib.bytesWorld w e s') := by
            refine hp.heap ?_
            apply Array.ext_getElem?
            intro i
            by_cases hi : i = w.heap.size
            · subst hi; rw [hat, pushW_at]
            · rw [hwne i hi, pushW_ne _ _ _ hi]
          have hszz : Sized 1 (s'.data.toList.map fun c => V.int .u8 c.toNat) := fun x hx => by obtain ⟨c, _, rfl⟩ := List.mem_map.1 hx; rfl
          have hfl : flat (s'.data.toList.map fun c => V.int .u8 c.toNat) = s'.data.toList.map fun c => V.int .u8 c.toNat := by
            generalize s'.data.toList = l
            induction l with
            | nil => rfl
            | cons c l ih => simp only [flat, List.map_cons, List.flatMap_cons] at ih ⊢; rw [ih]; rfl
          have hlen : (s'.data.toList.map fun c => V.int .u8 c.toNat).length = s'.size := by simp
          have hv := VR.ofFlat (G := addRom G w.heap.size 0 ((Lib.bytesCells w e s').toList.take s'.size)) (g := w.heap.size) (o := 0) (cap := grownCap w s'.size 0 e) (tk := .sealed) hszz
            (d := (Lib.bytesCells w e s').toList.take s'.size) (fun n v hv => addRom_at hv) (by rw [hfl]; exact hlr.mono hle) (by rw [hlen]; exact hge) trivial
          rw [hlen] at hv
          exact ⟨_, _, _, hrun, hle, hp', hv, hB⟩
      · cases h
    · cases h
  · rename_i e hus hud _
    split at h
    · rename_i hue
      obtain ⟨v1, hv, h⟩ := Option.map_eq_some_iff.1 h
      cases h
      exact strOf_sound hs hx hus hud hue hv
    · cases h
  · cases h

theorem arrPtr_sound (hs : Sim P G base σ w) {t : TypeId} {x : Value} {a v : V} (hx : VR G x a) (h : arrPtrV P t a = some v) : SemOK P G base w (Instr.arrayAt t x) v σ := by
  unfold arrPtrV at h
  split at h
  · rename_i n e tk xs hu
    split at h
    · rename_i hc
      cases h
      obtain ⟨h1, h2, h3⟩ := hc
      have hz : Sized (tsize P e) xs := sized_of_all h3
      cases hx with
      | sl g o cap k _ _ f hk hr hv hcc ht =>
        have hxs : 0 < xs.length := by omega
        have hkk : k = tsize P e := by rw [← hz _ (List.getElem_mem hxs), hk _ (List.getElem_mem hxs)]
        subst hkk
        rcases Nat.eq_zero_or_pos (tsize P e) with h0 | h0
        · refine .same hs (v' := .pointer (some ⟨g, o, none⟩)) (by simp [Instr.arrayAt, run_underlying hu]; omega) (.rptr g o _ (fun _ => Go.undef) (fun j b hb => ?_) (fun j b hb => ?_))
          all_goals
            have hl : (flat (xs.take n)).length = 0 := by rw [flat_length (hz.sub fun y hy => List.mem_of_mem_take hy), h0]; simp
            have := (List.getElem?_eq_some_iff.1 hb).1
            have hl' : ((xs.take n).flatMap vcells).length = 0 := hl
            omega
        · have hzt : Sized (tsize P e) (xs.take n) := hz.sub fun y hy => List.mem_of_mem_take hy
          refine .same hs (v' := .pointer (some ⟨g, o, none⟩)) (by simp [Instr.arrayAt, run_underlying hu]; omega) (.rptr g o _ (fun j => f (j / tsize P e) (j % tsize P e)) (fun j b hb => ?_) (fun j b hb => ?_))
          all_goals
            obtain ⟨x, hx, hb'⟩ := flat_of h0 hzt hb
            rw [List.getElem?_take] at hx
            split at hx
            · first
                | (have := hr _ _ _ _ hx hb'
                   rw [show o + j / tsize P e * tsize P e + j % tsize P e = o + j from by rw [Nat.add_assoc, Nat.mul_comm]; rw [Nat.div_add_mod]] at this
                   exact this)
                | exact hv _ _ _ _ hx hb'
            · cases hx
    · cases h
  · rename_i n e b o m c hu
    split at h
    · rename_i hc
      cases h
      cases hx with
      | msl _ g _ _ _ cap _ hm _ _ _ => exact .same hs (v' := .pointer (some ⟨g, _, none⟩)) (by simp [Instr.arrayAt, run_underlying hu]; omega) (.ptr g _ _ hm)
    · cases h
  · cases h

theorem minmax_sound {isMax : Bool} : ∀ {xs : List V} {a v : V} {x : Value} {ys : List Value}, VR G x a → LR G ys xs → minmax isMax a xs = some v → ∃ v', (ys.foldlM (if isMax then Builtin.max2 else Builtin.min2) x).run P w = .ok v' w ∧ VR G v' v
  | [], a, v, x, ys, hx, hl, h => by
    have : ys = [] := by have := hl.len; simp at this; exact this
    subst this
    unfold minmax at h
    cases a <;> simp at h
    subst h
    exact ⟨x, by simp, hx⟩
  | b :: xs, a, v, x, ys, hx, hl, h => by
    cases ys with
    | nil => have := hl.len; simp at this
    | cons y ys =>
      unfold minmax at h
      split at h
      · rename_i hh; cases hh
      · rename_i k n k' m rest heq
        cases heq
        have hy := hl.head
        cases hx; cases hy
        obtain ⟨v', hr, hv⟩ := minmax_sound (ys := ys) (.int k _) hl.tail h
        refine ⟨v', ?_, hv⟩
        simp only [List.foldlM_cons]
        rw [Sem.run_bind]
        cases isMax with
        | true => simp only [if_true] at hr ⊢; simpa [Builtin.max2] using hr
        | false => simp only [Bool.false_eq_true, if_false] at hr ⊢; simpa [Builtin.min2] using hr
      · cases h
end
end Go.Ev

set_option linter.unusedSimpArgs false
set_option linter.unusedVariables false
namespace Go.Ev
open Go.RowKit

inductive Yld : Next → Value → Prop where
  | value (v : Value) : Yld (.value v) v
  | skip : Yld .skip Go.undef

section
variable {P : Program} {G G' : Mm} {base : Nat} {σ σ' : St} {w w' : World}

def OpOK (P : Program) (G : Mm) (base : Nat) (w : World) (s : Sem Next) (v : V) (σ' : St) : Prop :=
  ∃ r w' v' G', s.run P w = .ok r w' ∧ Yld r v' ∧ G.LE G' ∧ Sim P G' base σ' w' ∧ VR G' v' v ∧ Below base w w'

theorem OpOK.ofSem {s : Sem Value} {v : V} (h : SemOK P G base w s v σ') : OpOK P G base w (do pure (.value (← s))) v σ' := by
  obtain ⟨v', w', G', hr, h1, h2, h3, h4⟩ := h
  exact ⟨.value v', w', v', G', by simp [hr], .value v', h1, h2, h3, h4⟩

theorem OpOK.ofUnit {s : Sem Unit} (h : ∃ w', s.run P w = .ok () w' ∧ Sim P G base σ' w' ∧ Below base w w') : OpOK P G base w (do s; pure .skip) V.undef σ' := by
  obtain ⟨w', hr, h2, h4⟩ := h
  exact ⟨.skip, w', Go.undef, G, by simp [hr], .skip, .refl _, h2, VR.undef, h4⟩

theorem OpOK.pure (hs : Sim P G base σ w) {x : Value} {v : V} (h : VR G x v) : OpOK P G base w (pure (.value x)) v σ := ⟨_, _, _, _, rfl, .value x, .refl _, hs, h, .refl _ _⟩

theorem arg0 {ts : Array TypeId} {t : TypeId} {l : List TypeId} (h : ts.toList = t :: l) : ts[0]? = some t := by rw [← Array.getElem?_toList, h]; rfl
theorem arg1 {ts : Array TypeId} {t t' : TypeId} {l : List TypeId} (h : ts.toList = t :: t' :: l) : ts[1]? = some t' := by rw [← Array.getElem?_toList, h]; rfl

theorem LR.args1 {args : Array Value} {x : V} {l : List V} (h : LR G args.toList (x :: l)) : ∃ a as, args.toList = a :: as ∧ args[0]? = some a ∧ VR G a x ∧ LR G as l := by
  cases hl : args.toList with
  | nil => rw [hl] at h; have := h.len; simp at this
  | cons a as => rw [hl] at h; exact ⟨a, as, rfl, by rw [← Array.getElem?_toList, hl]; rfl, h.head, h.tail⟩

theorem builtin_sound (hs : Sim P G base σ w) {own : Bool} {b : Builtin} {ts : Array TypeId} {ty : TypeId} {cs : Array Bool} {args : Array Value} {vs : List V} (hl : LR G args.toList vs) {v : V} {tl : List TypeId} (hts : ts.toList = tl)
    (h : builtinV P own σ b tl vs = some (v, σ')) : OpOK P G base w (builtin b ts ty cs args) v σ' := by
  unfold builtinV at h
  split at h
  · -- len
    rename_i t rest x rest'
    obtain ⟨a, as, ha, ha0, hx, _⟩ := hl.args1
    have ht := arg0 hts
    refine OpOK.ofSem (s := Builtin.len_ ts ty args) ?_
    split at h
    · rename_i s hu
      cases h; cases hx
      exact .same hs (v' := .int .i64 s.size) (by simp [Builtin.len_, ht, ha0, run_underlying hu, goInt]) (.int _ _)
    · rename_i n e hu
      cases h
      exact .same hs (v' := .int .i64 n) (by simp [Builtin.len_, ht, ha0, run_underlying hu, goInt]) (.int _ _)
    · rename_i ar hu
      split at h
      · rename_i n e hu'
        cases h
        exact .same hs (v' := .int .i64 n) (by simp [Builtin.len_, ht, ha0, run_underlying hu, run_underlying hu', goInt]) (.int _ _)
      · cases h
    · rename_i e tk xs hu
      cases h
      cases hx
      exact .same hs (v' := .int .i64 xs.length) (by simp [Builtin.len_, ht, ha0, run_underlying hu, goInt]) (.int _ _)
    · rename_i e tk hu
      cases h
      cases hx
      exact .same hs (v' := .int .i64 0) (by simp [Builtin.len_, ht, ha0, run_underlying hu, goInt]) (.int _ _)
    · rename_i e e' b o n c hu
      cases h
      cases hx
      exact .same hs (v' := .int .i64 n) (by simp [Builtin.len_, ht, ha0, run_underlying hu, goInt]) (.int _ _)
    · rename_i k e hu
      obtain ⟨es, hm, h⟩ := Option.map_eq_some_iff.1 h
      cases h
      refine .same hs (v' := .int .i64 es.length) ?_ (.int _ _)
      unfold mapOf at hm
      split at hm
      · cases hm; cases hx; simp [Builtin.len_, ht, ha0, run_underlying hu, goInt]
      · cases hx with
        | map g _ hmm =>
          split at hm
          · rename_i es' hb
            cases hm
            obtain ⟨g', ces, cl, hm', hh, h1, h2⟩ := hs.mapAt hb
            rw [hmm] at hm'; cases hm'
            have : ces.size = es.length := by have := h1.len; simpa using this
            simp [Builtin.len_, ht, ha0, run_underlying hu, goInt, run_getObj hh, this]
          · cases hm
      · cases hm
    · cases h
  · -- append
    rename_i t t' rest s x rest'
    obtain ⟨a, as, ha, ha0, hx, hl'⟩ := hl.args1
    cases as with
    | nil => have := hl'.len; simp at this
    | cons a1 as =>
      have ha1 : args[1]? = some a1 := by rw [← Array.getElem?_toList, ha]; rfl
      have hy := hl'.head
      refine OpOK.ofSem (s := Builtin.append_ ts ty args) ?_
      split at h
      · cases h
      · rename_i e d' hni hu hu'
        split at h
        · rename_i ys hv
          exact append_sound hs (arg0 hts) (arg1 hts) ha0 ha1 hu hu' (fun k he => by subst he; first | exact hni _ _ hu hu' | exact hni _ _ rfl rfl | exact hni _ rfl rfl | exact hni _ rfl) hx hy hv h
        · cases h
      · cases h
  · -- copy
    rename_i t rest d s rest'
    obtain ⟨a, as, ha, ha0, hx, hl'⟩ := hl.args1
    cases as with
    | nil => have := hl'.len; simp at this
    | cons a1 as =>
      have ha1 : args[1]? = some a1 := by rw [← Array.getElem?_toList, ha]; rfl
      have hy := hl'.head
      refine OpOK.ofSem (s := Builtin.copy_ ts ty args) ?_
      split at h
      · rename_i e e' b o n c ys hu hv
        split at h
        · rename_i hc
          obtain ⟨rfl, hc2, hk⟩ := hc
          have hys : Sized (tsize P e') ys := sized_of_all hc2
          obtain ⟨σ1, hw, h⟩ := Option.map_eq_some_iff.1 h
          cases h
          obtain ⟨ie, hinf⟩ := info_of_size hk
          obtain ⟨f, hly, hny, hlly⟩ := hs.source hy hk hv hys
          cases hx with
          | msl _ g _ _ _ cap _ hm _ _ _ =>
            have hmin : Nat.min ys.length n ≤ ys.length := Nat.min_le_left _ _
            have hll : LR G ((List.range (Nat.min ys.length n * tsize P e')).map f) ((ys.take (Nat.min ys.length n)).flatMap vcells) := by
              have h1 := hlly.take (Nat.min ys.length n * tsize P e')
              rw [← flat_take _ hys, ← List.map_take, List.take_range, Nat.min_eq_left (Nat.mul_le_mul_right _ hmin)] at h1
              exact h1
            obtain ⟨w', hr, h1, h2⟩ := wrCells_sound hs hw hll hm
            refine ⟨.int .i64 (Nat.min ys.length n), w', G, ?_, .refl _, h1, .int _ _, h2⟩
            simp only [Builtin.copy_, arg0 hts, ha0, ha1, Sem.run_bind, run_underlying hu, Result.andThen_ok, hly, run_sizeOf' e' hinf, hny _ hmin, List.toList_toArray, hr, goInt, Sem.run_pure]
        · cases h
      · cases h
  · -- cap
    rename_i t rest x rest'
    obtain ⟨a, as, ha, ha0, hx, _⟩ := hl.args1
    have ht := arg0 hts
    refine OpOK.ofSem (s := Builtin.cap_ ts ty args) ?_
    split at h
    · rename_i e e' b o n c hu
      cases h
      cases hx with
      | msl _ g _ _ _ cap _ hm hc hn _ =>
        have := hc _ rfl
        subst this
        exact .same hs (v' := .int .i64 cap) (by simp [Builtin.cap_, ht, ha0, run_underlying hu, goInt]) (.int _ _)
    · rename_i e xs hu
      cases h
      cases hx with
      | sl g o cap k _ _ f hk hr hv hc htk =>
        have : cap = xs.length := htk
        subst this
        exact .same hs (v' := .int .i64 xs.length) (by simp [Builtin.cap_, ht, ha0, run_underlying hu, goInt]) (.int _ _)
    · rename_i e tk hu
      cases h; cases hx
      exact .same hs (v' := .int .i64 0) (by simp [Builtin.cap_, ht, ha0, run_underlying hu, goInt]) (.int _ _)
    · cases h
  · -- min
    rename_i x rest
    obtain ⟨a, as, ha, ha0, hx, hl'⟩ := hl.args1
    obtain ⟨u, hm, h⟩ := Option.map_eq_some_iff.1 h
    cases h
    obtain ⟨v', hr, hv⟩ := minmax_sound (P := P) (w := w) hx hl' hm
    refine OpOK.ofSem (s := Builtin.min_ ts ty args) (.same hs ?_ hv)
    simp only [Builtin.min_, ha]
    simpa using hr
  · -- max
    rename_i x rest
    obtain ⟨a, as, ha, ha0, hx, hl'⟩ := hl.args1
    obtain ⟨u, hm, h⟩ := Option.map_eq_some_iff.1 h
    cases h
    obtain ⟨v', hr, hv⟩ := minmax_sound (P := P) (w := w) hx hl' hm
    refine OpOK.ofSem (s := Builtin.max_ ts ty args) (.same hs ?_ hv)
    simp only [Builtin.max_, ha]
    simpa using hr
  · cases h

theorem evalM_sound {a : Act} {fr : Fr} (hf : LR G a.tmps.toList fr) {x : Option Operand} {v : Option V} (h : evalM fr x = some v) : OptR G (x.map a.eval) v := by
  unfold evalM at h
  split at h
  · cases h; trivial
  · rename_i o
    obtain ⟨u, hu, h⟩ := Option.map_eq_some_iff.1 h
    cases h
    exact VR.evalO hf hu

theorem Sim.siterAt (hs : Sim P G base σ w) {b : Nat} {s : ByteArray} {p : Nat} (h : σ[b]? = some (.siter s p)) : ∃ g, G.mu b = some g ∧ w.heap[g]? = some (.stringIter s p) := hs.obj b _ h
end
end Go.Ev

set_option linter.unusedSimpArgs false
set_option linter.unusedVariables false
namespace Go.Ev
open Go.RowKit

section
variable {P : Program} {G G' : Mm} {base : Nat} {σ σ' : St} {w w' : World}

theorem VR.func_inv {x : Value} {f : FuncId} {a c : List V} (h : VR G x (.func (.func f) a c)) : ∃ a' c', x = .func (.func f) a' c' ∧ LR G a'.toList a ∧ LR G c'.toList c := by
  cases h with
  | func fn a' c' _ _ hf hl hh hl' hh' => exact ⟨a', c', rfl, ⟨hl, hh⟩, ⟨hl', hh'⟩⟩

set_option maxHeartbeats 2000000 in
theorem opV_sound (hs : Sim P G base σ w) {a : Act} {fr : Fr} (hf : LR G a.tmps.toList fr) {own : Bool} {o : Oper} {v : V} (h : opV P own fr σ o.op = some (v, σ')) : OpOK P G base w (execOp a.eval o) v σ' := by
  unfold opV at h
  unfold execOp
  split at h
  · -- move
    rename_i x ho
    obtain ⟨u, hu, h⟩ := Option.map_eq_some_iff.1 h
    cases h
    simp only [ho]
    exact .pure hs (VR.evalO hf hu)
  · rename_i x ho
    obtain ⟨u, hu, h⟩ := Option.map_eq_some_iff.1 h
    cases h
    simp only [ho]
    exact .pure hs (VR.evalO hf hu)
  · -- pick
    rename_i c x y ho
    split at h
    · rename_i t hc
      obtain ⟨u, hu, h⟩ := Option.map_eq_some_iff.1 h
      cases h
      simp only [ho]
      have hb := VR.evalO hf hc
      generalize a.eval c = cv at hb
      cases hb
      simp only [asBool, pure_bind]
      cases t with
      | true => exact .pure hs (VR.evalO hf hu)
      | false => exact .pure hs (VR.evalO hf hu)
    · cases h
  · -- alloc
    rename_i e ho
    simp only [ho]
    exact .ofSem (alloc_sound hs h)
  · -- box
    rename_i e x ho
    obtain ⟨u, hu, h⟩ := Option.map_eq_some_iff.1 h
    cases h
    simp only [ho]
    exact .ofSem (box_sound hs e (VR.evalO hf hu))
  · -- build
    rename_i t ps ho
    obtain ⟨u, hu, h⟩ := Option.map_eq_some_iff.1 h
    cases h
    obtain ⟨qs, hq, hb⟩ := Option.bind_eq_some_iff.1 hu
    simp only [ho]
    obtain ⟨h1, h2⟩ := evalP_sound hf hq
    exact .ofSem (build_sound hs (ps := ps.map fun (i, x) => (i, a.eval x)) (by rw [Array.toList_map]; exact h1) (by rw [Array.toList_map]; exact h2) hb)
  · -- buildSlice
    rename_i t n ps ho
    obtain ⟨qs, hq, hb⟩ := Option.bind_eq_some_iff.1 h
    simp only [ho]
    obtain ⟨h1, h2⟩ := evalP_sound hf hq
    exact .ofSem (buildSlice_sound hs (ps := ps.map fun (i, x) => (i, a.eval x)) (by rw [Array.toList_map]; exact h1) (by rw [Array.toList_map]; exact h2) hb)
  · -- load
    rename_i t x ho
    obtain ⟨u, hu, h⟩ := Option.map_eq_some_iff.1 h
    cases h
    obtain ⟨q, hq, hb⟩ := Option.bind_eq_some_iff.1 hu
    simp only [ho]
    obtain ⟨v', hr, hv⟩ := loadV_sound hs (VR.evalO hf hq) hb
    exact .ofSem (.same hs hr hv)
  · -- store
    rename_i t x y ho
    split at h
    · rename_i p q hp hq
      obtain ⟨u, hu, h⟩ := Option.map_eq_some_iff.1 h
      cases h
      simp only [ho]
      exact .ofUnit (store_sound hs (VR.evalO hf hp) (VR.evalO hf hq) hu)
    · cases h
  · -- nilCheck
    rename_i x ho
    split at h
    · rename_i b of hx
      cases h
      simp only [ho]
      have hv := VR.evalO hf hx
      generalize a.eval x = xv at hv
      have hv' := hv
      cases hv
      exact .pure hs hv'
    · rename_i cs hx
      cases h
      simp only [ho]
      have hv := VR.evalO hf hx
      generalize a.eval x = xv at hv
      have hv' := hv
      cases hv
      exact .pure hs hv'
    · rename_i f a' c' hx
      cases h
      simp only [ho]
      have hv := VR.evalO hf hx
      generalize a.eval x = xv at hv
      have hv' := hv
      obtain ⟨_, _, rfl, _, _⟩ := hv.func_inv
      exact .pure hs hv'
    · rename_i l hx
      cases h
      simp only [ho]
      have hv := VR.evalO hf hx
      generalize a.eval x = xv at hv
      have hv' := hv
      cases hv with
      | yield g _ hm => exact .pure hs hv'
    · cases h
  · -- binOp
    rename_i op t x y ty ho
    split at h
    · rename_i p q hp hq
      obtain ⟨u, hu, h⟩ := Option.map_eq_some_iff.1 h
      cases h
      simp only [ho]
      exact .ofSem (bin_sound hs (VR.evalO hf hp) (VR.evalO hf hq) hu)
    · cases h
  · -- unOp
    rename_i op t x ho
    obtain ⟨u, hu, h⟩ := Option.map_eq_some_iff.1 h
    cases h
    obtain ⟨q, hq, hb⟩ := Option.bind_eq_some_iff.1 hu
    simp only [ho]
    exact .ofSem (un_sound hs (VR.evalO hf hq) hb)
  · -- convert
    rename_i s d x ho
    obtain ⟨q, hq, hb⟩ := Option.bind_eq_some_iff.1 h
    simp only [ho]
    exact .ofSem (conv_sound hs (VR.evalO hf hq) hb)
  · -- sliceToArrayPointer
    rename_i t x ho
    obtain ⟨u, hu, h⟩ := Option.map_eq_some_iff.1 h
    cases h
    obtain ⟨q, hq, hb⟩ := Option.bind_eq_some_iff.1 hu
    simp only [ho]
    exact .ofSem (arrPtr_sound hs (VR.evalO hf hq) hb)
  · -- makeInterface
    rename_i t x ho
    split at h
    · cases h
    · cases h
    · rename_i h1 h2
      obtain ⟨u, hu, h⟩ := Option.map_eq_some_iff.1 h
      cases h
      simp only [ho]
      refine .ofSem (.same hs (v' := .iface t (a.eval x)) ?_ (.iface t _ _ (VR.evalO hf hu)))
      cases hut : P.underlying t with
      | none => exact (h2 hut).elim
      | some d =>
        cases d <;> first | (simp [Instr.makeInterface, run_underlying hut]; done) | exact (h1 _ hut).elim
  · -- makeFunc
    rename_i f first cap ho
    split at h
    · rename_i p q hp hq
      cases h
      simp only [ho]
      have h1 := LR.evalL hf hp
      have h2 := LR.evalL hf hq
      refine .ofSem (.same hs (v' := .func (.func f) (first.map a.eval) (cap.map a.eval)) rfl ?_)
      exact .func (.func f) _ _ _ _ (by simp) (by simpa using h1.len) (by simpa using h1.at_) (by simpa using h2.len) (by simpa using h2.at_)
    · cases h
  · -- makeMap
    rename_i t ho
    cases h
    simp only [ho]
    refine .ofSem ⟨.map (some w.heap.size), pushW w (.map #[] 0), addMu G σ.length w.heap.size, by simp [Instr.makeMap, pushW], addMu_le (hs.muNone (Nat.le_refl _)), ?_, .map _ _ (by simp [addMu]), pushW_below _ _ hs.big⟩
    refine hs.pushObj (.map []) _ (fun g hg => ?_) ⟨w.heap.size, by simp [addMu], ?_⟩
    · simpa [Blk, addMu] using hg.symm
    · rw [pushW_at]; exact ⟨LR.nil, LR.nil⟩
  · -- makeSlice
    rename_i t x y ho
    split at h
    · rename_i p q hp hq
      simp only [ho]
      have h1 := VR.evalO hf hp
      have h2 := VR.evalO hf hq
      generalize a.eval x = xv at h1
      generalize a.eval y = yv at h2
      cases h1; cases h2
      exact .ofSem (make_sound hs h)
    · cases h
  · -- slice
    rename_i t x lo hi mx ho
    split at h
    · rename_i p l1 l2 l3 hp h1 h2 h3
      obtain ⟨u, hu, h⟩ := Option.map_eq_some_iff.1 h
      cases h
      simp only [ho]
      exact .ofSem (slice_sound hs (VR.evalO hf hp) (evalM_sound hf h1) (evalM_sound hf h2) (evalM_sound hf h3) hu)
    · cases h
  · -- fieldAddr
    rename_i s x f ho
    obtain ⟨u, hu, h⟩ := Option.map_eq_some_iff.1 h
    cases h
    obtain ⟨q, hq, hb⟩ := Option.bind_eq_some_iff.1 hu
    simp only [ho]
    exact .ofSem (fieldAddr_sound hs (VR.evalO hf hq) hb)
  · -- field
    rename_i s x f ho
    obtain ⟨u, hu, h⟩ := Option.map_eq_some_iff.1 h
    cases h
    obtain ⟨q, hq, hb⟩ := Option.bind_eq_some_iff.1 hu
    simp only [ho]
    exact .ofSem (field_sound hs (VR.evalO hf hq) hb)
  · -- indexAddr
    rename_i t x i ho
    split at h
    · rename_i p q hp hq
      obtain ⟨u, hu, h⟩ := Option.map_eq_some_iff.1 h
      cases h
      simp only [ho]
      exact .ofSem (indexAddr_sound hs (VR.evalO hf hp) (VR.evalO hf hq) hu)
    · cases h
  · -- index
    rename_i t x i ho
    split at h
    · rename_i p q hp hq
      obtain ⟨u, hu, h⟩ := Option.map_eq_some_iff.1 h
      cases h
      simp only [ho]
      exact .ofSem (index_sound hs (VR.evalO hf hp) (VR.evalO hf hq) hu)
    · cases h
  · -- lookup
    rename_i t m k ok ho
    split at h
    · rename_i p q hp hq
      obtain ⟨u, hu, h⟩ := Option.map_eq_some_iff.1 h
      cases h
      simp only [ho]
      exact .ofSem (lookup_sound hs (VR.evalO hf hp) (VR.evalO hf hq) hu)
    · cases h
  · -- mapUpdate
    rename_i t m k x ho
    split at h
    · rename_i p q r hp hq hr
      obtain ⟨u, hu, h⟩ := Option.map_eq_some_iff.1 h
      cases h
      simp only [ho]
      exact .ofUnit (update_sound hs (VR.evalO hf hp) (VR.evalO hf hq) (VR.evalO hf hr) hu)
    · cases h
  · -- insert
    rename_i t m k x ho
    split at h
    · rename_i p q r hp hq hr
      obtain ⟨u, hu, h⟩ := Option.map_eq_some_iff.1 h
      cases h
      simp only [ho]
      exact .ofUnit (update_sound hs (VR.evalO hf hp) (VR.evalO hf hq) (VR.evalO hf hr) hu)
    · cases h
  · -- range
    rename_i t x ho
    split at h
    · rename_i s hu hx
      cases h
      simp only [ho]
      have h1 := VR.evalO hf hx
      generalize a.eval x = xv at h1
      cases h1
      refine .ofSem ⟨.pointer (some ⟨w.heap.size, 0, none⟩), pushW w (.stringIter s 0), addMu G σ.length w.heap.size, by simp [Instr.range, run_underlying hu, pushW], addMu_le (hs.muNone (Nat.le_refl _)), ?_, .ptr _ _ _ (by simp [addMu]), pushW_below _ _ hs.big⟩
      refine hs.pushObj (.siter s 0) _ (fun g hg => ?_) ⟨w.heap.size, by simp [addMu], ?_⟩
      · simpa [Blk, addMu] using hg.symm
      · rw [pushW_at]
    · cases h
  · -- next
    rename_i x ho
    split at h
    · rename_i r hx
      split at h
      · rename_i s pos hr
        simp only [ho]
        have h1 := VR.evalO hf hx
        generalize a.eval x = xv at h1
        cases h1 with
        | ptr g _ _ hm =>
          obtain ⟨g', hm', hh⟩ := hs.siterAt hr
          rw [hm] at hm'; cases hm'
          have hlt := (Array.getElem?_eq_some_iff.1 hh).1
          have hbase : base ≤ g := hs.above r _ g hr hm
          split at h
          · rename_i hp
            cases h
            refine .ofSem ⟨.tuple #[.bool true, .int .i64 pos, .int .i32 (Utf8.decode s pos).1], setBlk w g (.stringIter s (pos + (Utf8.decode s pos).2)), G, ?_, .refl _, ?_, ?_, setBlk_below _ _ _ hbase⟩
            · simp [Instr.next, run_getObj hh, hp, run_setObj hh, goInt]
            · exact hs.turn hr hm (fun _ => rfl) (fun _ => rfl) hh (by simp) (by simp) ⟨g, hm, setBlk_at _ _ _ hlt⟩
            · exact .tup _ _ rfl (LR.cons (.bool true) (LR.cons (.int _ _) (LR.one (.int _ _)))).at_
          · rename_i hp
            cases h
            refine .ofSem (.same hs (v' := .tuple #[.bool false]) ?_ (.tup _ _ rfl (LR.one (.bool false)).at_))
            simp [Instr.next, run_getObj hh, hp]
      · cases h
    · cases h
  · -- extract
    rename_i x i ho
    split at h
    · rename_i vs hx
      obtain ⟨u, hu, h⟩ := Option.map_eq_some_iff.1 h
      cases h
      simp only [ho]
      have h1 := VR.evalO hf hx
      generalize a.eval x = xv at h1
      cases h1 with
      | tup cs _ hl hh =>
        obtain ⟨b, hb, hv⟩ := (LR.mk hl hh).get? hu
        have hb' : cs[i]? = some b := by rw [← Array.getElem?_toList]; exact hb
        exact .ofSem (.same hs (v' := b) (by simp [Instr.extract, hb']) hv)
    · cases h
  · -- a builtin
    rename_i b args ts ho
    obtain ⟨vs, hvs, hb⟩ := Option.bind_eq_some_iff.1 h
    simp only [ho]
    have h1 := LR.evalL hf hvs
    simp only [resolve, pure_bind, invoke]
    exact builtin_sound hs (args := args.map a.eval) (by simpa using h1) rfl hb
  · cases h
end
end Go.Ev

set_option linter.unusedSimpArgs false
set_option linter.unusedVariables false
namespace Go.Ev
open Go.RowKit

/-- A frame that runs. -/
def fra (b : Frame) (ts : Array Value) (todo : List Item) (ds : List Deferred) : Frame := { b with tmps := ts, todo := todo, defers := ds, mode := .run }

def marks (rs : List Nat) : List Deferred := rs.map fun r => { target := .collected r, args := #[] }

section
variable {P : Program} {b : Frame} {ts : Array Value} {k : List Item} {cs : List Frame} {w : World} {ds : List Deferred}

theorem fra_eval (x : Operand) (todo : List Item) : (fra b ts todo ds).eval x = ({ tmps := ts, defers := ds } : Act).eval x := by cases x <;> rfl
theorem fra_eval' (todo : List Item) : (fra b ts todo ds).eval = ({ tmps := ts, defers := ds } : Act).eval := funext fun x => fra_eval x todo

theorem st_skip : step P (lone (fra b ts (.code .skip :: k) ds) cs w) = .next (lone (fra b ts k ds) cs w) := step_lone_go (by simp [stepG, stepG.exec, fra])
theorem st_label {l : Nat} : step P (lone (fra b ts (.code (.label l) :: k) ds) cs w) = .next (lone (fra b ts k ds) cs w) := step_lone_go (by simp [stepG, stepG.exec, fra])
theorem st_inBlock {id : Nat} : step P (lone (fra b ts (.inBlock id :: k) ds) cs w) = .next (lone (fra b ts k ds) cs w) := step_lone_go (by simp [stepG, stepG.exec, fra])
theorem st_seq {x y : Code} : step P (lone (fra b ts (.code (.seq x y) :: k) ds) cs w) = .next (lone (fra b ts (.code x :: .code y :: k) ds) cs w) := step_lone_go (by simp [stepG, stepG.exec, fra])
theorem st_cond {c : Operand} {x y : Code} {t : Bool} (h : ({ tmps := ts, defers := ds } : Act).eval c = .bool t) :
    step P (lone (fra b ts (.code (.cond c x y) :: k) ds) cs w) = .next (lone (fra b ts (.code (if t then x else y) :: k) ds) cs w) :=
  step_lone_go (by
    have := fra_eval (b := b) (ts := ts) (ds := ds) c (.code (.cond c x y) :: k)
    rw [h] at this
    simp only [fra] at this
    simp [stepG, stepG.exec, fra, this])
theorem st_block {id : Nat} {c : Code} : step P (lone (fra b ts (.code (.block id c) :: k) ds) cs w) = .next (lone (fra b ts (.code c :: .inBlock id :: k) ds) cs w) := step_lone_go (by simp [stepG, stepG.exec, fra])
theorem st_loop {c : Code} : step P (lone (fra b ts (.code (.loop c) :: k) ds) cs w) = .next (lone (fra b ts (.code c :: .inLoop c :: k) ds) cs w) := step_lone_go (by simp [stepG, stepG.exec, fra])
theorem st_inLoop {c : Code} : step P (lone (fra b ts (.inLoop c :: k) ds) cs w) = .next (lone (fra b ts (.code c :: .inLoop c :: k) ds) cs w) := step_lone_go (by simp [stepG, stepG.exec, fra])
theorem st_exit {id : Nat} {k' : List Item} (h : exitTo id k = some k') : step P (lone (fra b ts (.code (.exit id) :: k) ds) cs w) = .next (lone (fra b ts k' ds) cs w) := step_lone_go (by simp [stepG, stepG.exec, fra, h])
theorem st_region {id : Nat} {ops : Array Oper} : step P (lone (fra b ts (.code (.region id ops false) :: k) ds) cs w) = .next (lone (fra b ts (.inRegion ops (List.range ops.size) :: k) ds) cs w) := step_lone_go (by simp [stepG, stepG.exec, fra])
theorem st_region_draw {id : Nat} {ops : Array Oper} : step P (lone (fra b ts (.code (.region id ops true) :: k) ds) cs w) =
    .next (lone (fra b ts (.inRegion ops (Region.schedule (P.follows .mixedOrders) ops (w.tape w.drawn (.order b.fn id))) :: k) ds) cs { w with drawn := w.drawn + 1 }) :=
  step_lone_go (by simp [stepG, stepG.exec, fra, choose, Sem.run, Question.forced, Question.cut])
theorem st_region_end {ops : Array Oper} : step P (lone (fra b ts (.inRegion ops [] :: k) ds) cs w) = .next (lone (fra b ts k ds) cs w) := step_lone_go (by simp [stepG, stepG.exec, fra])

def putT (ts : Array Value) (d : Option Tmp) (v : Value) : Array Value := match d with | some d => ts.setIfInBounds d v | none => ts

theorem finish_fra (ops : Array Oper) (i : Nat) (rest : List Nat) (v : Value) : (fra b ts (.inRegion ops (i :: rest) :: k) ds).finish v = fra b (putT ts ((ops[i]?).bind (·.dst)) v) (.inRegion ops rest :: k) ds := by
  cases h : (ops[i]?).bind (·.dst) <;> simp [Frame.finish, fra, putT, h]

theorem st_idle {ops : Array Oper} {i : Nat} {rest : List Nat} (h : ((ops[i]?).map (Region.wanted · (yielded ops ts))).getD false = false) :
    step P (lone (fra b ts (.inRegion ops (i :: rest) :: k) ds) cs w) = .next (lone (fra b (putT ts ((ops[i]?).bind (·.dst)) Go.undef) (.inRegion ops rest :: k) ds) cs w) := by
  rw [← finish_fra]
  exact step_lone_go (by
    have h' := h
    simp only [fra] at *
    simp [stepG, stepG.exec, h'])

theorem stG_op {ops : Array Oper} {i : Nat} {rest : List Nat} {o : Oper} (ho : ops[i]? = some o) (hw : Region.wanted o (yielded ops ts) = true) (hd : ∀ c, o.op ≠ .defer c) :
    stepG P true { frame := fra b ts (.inRegion ops (i :: rest) :: k) ds, callers := cs, status := .running, dying := none } w =
      stepG.apply P true (fra b ts (.inRegion ops (i :: rest) :: k) ds) cs none (execOp ({ tmps := ts, defers := ds } : Act).eval o) w := by
  have he := fra_eval' (b := b) (ts := ts) (ds := ds) (.inRegion ops (i :: rest) :: k)
  simp only [fra] at he
  simp only [stepG, stepG.exec, stepG.oper, Frame.oper?, fra, ho, Option.map_some, hw, Option.getD_some, if_true]
  cases hr : b.roundOf with
  | none =>
    rw [hr] at he
    simp [he]
  | some l =>
    rw [hr] at he
    split
    · rename_i c h1 h2; exact absurd h2 (hd _)
    · simp [he]

/-- A call from a frame that goes on behind it. -/
def Goes (P : Program) (fr : Frame) (cs : List Frame) (r : Next) (w1 : World) (v' : Value) (w' : World) : Prop :=
  match r with
  | .value v => v' = v ∧ w' = w1
  | .enter f as => Steps P (lone (Frame.enter P f as .normal) (fr :: cs) w1) (lone (fr.finish v') cs w')
  | .round l f as x bd => Steps P (lone (Frame.round l f as x bd .normal) (fr :: cs) w1) (lone (fr.finish v') cs w')
  | _ => False

/-- What an operation that yields a value, or that calls, is in the machine. -/
theorem apply_goes {fr : Frame} {s : Sem Next} {r : Next} {w1 : World} (hk : ∀ d m x y z, fr.todo ≠ .call d m x y :: z) (h : s.run P w = .ok r w1) {v' : Value} {w' : World}
    (hst : ∀ g, (stepG P true { frame := fr, callers := cs, status := .running, dying := none } w).bare = g → (stepG.apply P true fr cs none s w).bare = g) (hg : Goes P fr cs r w1 v' w') :
    Steps P (lone fr cs w) (lone (fr.finish v') cs w') := by
  have hs := hst _ rfl
  cases r with
  | value v =>
    obtain ⟨rfl, rfl⟩ := hg
    refine .one (step_lone_go ?_)
    rw [← hs]
    simp [stepG.apply, h]
  | enter f as =>
    refine .head (step_lone_go ?_) hg
    rw [← hs]
    simp [stepG.apply, h]
    split
    · rename_i h'; exact absurd h' (hk _ _ _ _ _)
    · rfl
  | round l f as x bd =>
    refine .head (step_lone_go ?_) hg
    rw [← hs]
    simp [stepG.apply, h]
  | _ => exact hg.elim

theorem op_goes {ops : Array Oper} {i : Nat} {rest : List Nat} {o : Oper} (ho : ops[i]? = some o) (hw : Region.wanted o (yielded ops ts) = true) (hd : ∀ c, o.op ≠ .defer c) {r : Next} {w1 : World}
    (h : (execOp ({ tmps := ts, defers := ds } : Act).eval o).run P w = .ok r w1) {v' : Value} {w' : World} (hg : Goes P (fra b ts (.inRegion ops (i :: rest) :: k) ds) cs r w1 v' w') :
    Steps P (lone (fra b ts (.inRegion ops (i :: rest) :: k) ds) cs w) (lone (fra b (putT ts o.dst v') (.inRegion ops rest :: k) ds) cs w') := by
  have hf := finish_fra (b := b) (ts := ts) (k := k) (ds := ds) ops i rest v'
  rw [ho] at hf
  simp only [Option.bind_some] at hf
  rw [← hf]
  refine apply_goes (by simp [fra]) h (fun g hg' => ?_) hg
  rw [← hg', stG_op ho hw hd]

theorem op_skips {ops : Array Oper} {i : Nat} {rest : List Nat} {o : Oper} (ho : ops[i]? = some o) (hw : Region.wanted o (yielded ops ts) = true) (hd : ∀ c, o.op ≠ .defer c) {w1 : World}
    (h : (execOp ({ tmps := ts, defers := ds } : Act).eval o).run P w = .ok .skip w1) :
    Steps P (lone (fra b ts (.inRegion ops (i :: rest) :: k) ds) cs w) (lone (fra b (putT ts o.dst Go.undef) (.inRegion ops rest :: k) ds) cs w1) := by
  have hf := finish_fra (b := b) (ts := ts) (k := k) (ds := ds) ops i rest Go.undef
  rw [ho] at hf
  simp only [Option.bind_some] at hf
  rw [← hf]
  refine .one (step_lone_go ?_)
  rw [stG_op ho hw hd]
  simp [stepG.apply, h]
end
end Go.Ev

set_option linter.unusedSimpArgs false
set_option linter.unusedVariables false
namespace Go.Ev
open Go.RowKit

section
variable {P : Program} {G G' : Mm} {base : Nat} {σ σ' : St} {w w' : World}

open Classical in
/-- Only what is older than n is meant; the cells of what is newer stay as they are. -/
noncomputable def restr (G : Mm) (n : Nat) (σ : St) (w : World) (R : Nat → Prop) : Mm where
  rom g o := match G.rom g o with
    | some v => some v
    | none => if ∃ b e cs, n ≤ b ∧ σ[b]? = some (.cells e cs) ∧ G.mu b = some g then w.cell? ⟨g, o, none⟩ else none
  mu b := if b < n then G.mu b else none
  tk t m := if t < n then G.tk t m else none
  res := R
  ld := G.ld

theorem restr_mu {n : Nat} {R : Nat → Prop} {b g : Nat} (h : (restr G n σ w R).mu b = some g) : b < n ∧ G.mu b = some g := by
  simp only [restr] at h
  by_cases e : b < n
  · rw [if_pos e] at h; exact ⟨e, h⟩
  · rw [if_neg e] at h; cases h
theorem restr_tk {n : Nat} {R : Nat → Prop} {t m : Nat} {p : Nat × Nat} (h : (restr G n σ w R).tk t m = some p) : t < n ∧ G.tk t m = some p := by
  simp only [restr] at h
  by_cases e : t < n
  · rw [if_pos e] at h; exact ⟨e, h⟩
  · rw [if_neg e] at h; cases h

theorem cleanL_all {n : Nat} : ∀ {cs : List V}, clean.cleanL n cs = true ↔ ∀ v ∈ cs, clean n v = true
  | [] => by simp [clean.cleanL]
  | c :: cs => by simp [clean.cleanL, cleanL_all (cs := cs)]

theorem clean_cells {n : Nat} {x v : V} (h : clean n x = true) (hv : v ∈ vcells x) : clean n v = true := by
  cases x <;> simp only [vcells, List.mem_singleton] at hv <;> first | (subst hv; exact h) | skip
  rename_i cs
  rw [clean] at h
  exact cleanL_all.1 h v hv

/-- What is clean can be said in the older memory. -/
theorem VR.restr {n : Nat} {R : Nat → Prop} {x : Value} {v : V} (h : VR G x v) (hc : clean n v = true) : VR (restr G n σ w R) x v := by
  have hrom : ∀ g o u, G.rom g o = some u → (Ev.restr G n σ w R).rom g o = some u := fun g o u hu => by simp [Ev.restr, hu]
  induction h with
  | bool b => exact .bool b
  | int k n => exact .int k n
  | str s => exact .str s
  | agg cs ds hl _ ih => rw [clean] at hc; exact .agg cs ds hl fun i a b ha hb => ih i a b ha hb (cleanL_all.1 hc b (List.mem_of_getElem? hb))
  | tup cs ds hl _ ih => rw [clean] at hc; exact .tup cs ds hl fun i a b ha hb => ih i a b ha hb (cleanL_all.1 hc b (List.mem_of_getElem? hb))
  | ptr g b o h => simp only [clean, decide_eq_true_eq] at hc; exact .ptr g b o (by simp [Ev.restr, hc, h])
  | rptr g o cs f h _ ih => rw [clean] at hc; exact .rptr g o cs f (fun j b hb => hrom _ _ _ (h j b hb)) fun j b hb => ih j b hb (cleanL_all.1 hc b (List.mem_of_getElem? hb))
  | nilptr => exact .nilptr
  | sl g o cap k tk xs f hk h _ hcap ht ih =>
    rw [clean] at hc
    simp only [Bool.and_eq_true] at hc
    refine .sl g o cap k tk xs f hk (fun i x j b hx hb => hrom _ _ _ (h i x j b hx hb)) (fun i x j b hx hb => ih i x j b hx hb (clean_cells (cleanL_all.1 hc.2 x (List.mem_of_getElem? hx)) (List.mem_of_getElem? hb))) hcap ?_
    cases tk with
    | sealed => trivial
    | full => exact ht
    | res t => exact ht
    | tok t =>
      have h1 := hc.1
      simp only [cleanTk, decide_eq_true_eq] at h1
      exact ⟨ht.1, by simp [Ev.restr, h1, ht.2]⟩
  | msl e g b o m cap c h hcc hn ht =>
    simp only [clean, decide_eq_true_eq] at hc
    exact .msl e g b o m cap c (by simp [Ev.restr, hc, h]) hcc hn fun e => by simp [Ev.restr, hc, ht e]
  | nilsl t => exact .nilsl t
  | map g b h => simp only [clean, decide_eq_true_eq] at hc; exact .map g b (by simp [Ev.restr, hc, h])
  | nilmap => exact .nilmap
  | func fn a c a' c' hf hl _ hl' _ ih ih' =>
    rw [clean] at hc
    simp only [Bool.and_eq_true] at hc
    exact .func fn a c a' c' hf hl (fun i x y hx hy => ih i x y hx hy (cleanL_all.1 hc.1 y (List.mem_of_getElem? hy))) hl' (fun i x y hx hy => ih' i x y hx hy (cleanL_all.1 hc.2 y (List.mem_of_getElem? hy)))
  | yield g l h => simp only [clean, decide_eq_true_eq] at hc; exact .yield g l (by simp [Ev.restr, hc, h])
  | nilfunc => exact .nilfunc
  | iface t x v _ ih => rw [clean] at hc; exact .iface t x v (ih hc)
  | nilif => exact .nilif

theorem LR.restr {n : Nat} {R : Nat → Prop} {xs : List Value} {vs : List V} (h : LR G xs vs) (hc : ∀ v ∈ vs, clean n v = true) : LR (Ev.restr G n σ w R) xs vs :=
  ⟨h.len, fun i a b ha hb => (h.at_ i a b ha hb).restr (hc b (List.mem_of_getElem? hb))⟩

/-- What is meant in a memory of n objects is clean. -/
theorem VR.isClean {n : Nat} (hm : ∀ b g, G.mu b = some g → b < n) (ht : ∀ t m p, G.tk t m = some p → t < n) {x : Value} {v : V} (h : VR G x v) : clean n v = true := by
  have list : ∀ {as : List Value} {bs : List V}, as.length = bs.length → (∀ (i : Nat) a b, as[i]? = some a → bs[i]? = some b → clean n b = true) → clean.cleanL n bs = true := by
    intro as bs hl hh
    refine cleanL_all.2 fun v hv => ?_
    obtain ⟨i, hi, rfl⟩ := List.getElem_of_mem hv
    exact hh i as[i] _ (List.getElem?_eq_getElem (by omega)) (List.getElem?_eq_getElem hi)
  induction h with
  | bool b => rfl
  | int k n => rfl
  | str s => rfl
  | agg cs ds hl _ ih => rw [clean]; exact list hl ih
  | tup cs ds hl _ ih => rw [clean]; exact list hl ih
  | ptr g b o h => simp only [clean, decide_eq_true_eq]; exact hm _ _ h
  | rptr g o cs f h _ ih =>
    rw [clean]
    refine cleanL_all.2 fun v hv => ?_
    obtain ⟨i, hi, rfl⟩ := List.getElem_of_mem hv
    exact ih i _ (List.getElem?_eq_getElem hi)
  | nilptr => rfl
  | sl g o cap k tk xs f hk h _ hcap htk ih =>
    rw [clean]
    simp only [Bool.and_eq_true]
    refine ⟨?_, cleanL_all.2 fun v hv => ?_⟩
    · cases tk with
      | sealed => rfl
      | full => rfl
      | res t => rfl
      | tok t => simp only [cleanTk, decide_eq_true_eq]; exact ht _ _ _ htk.2
    · obtain ⟨i, hi, rfl⟩ := List.getElem_of_mem hv
      have hcell : ∀ c ∈ vcells xs[i], clean n c = true := fun c hc => by
        obtain ⟨j, hj, rfl⟩ := List.getElem_of_mem hc
        exact ih i _ j _ (List.getElem?_eq_getElem hi) (List.getElem?_eq_getElem hj)
      generalize xs[i] = x at hcell
      cases x with
      | agg cs => rw [clean]; exact cleanL_all.2 hcell
      | _ => exact hcell _ (by simp [vcells])
  | msl e g b o m cap c h hcc hn ht => simp only [clean, decide_eq_true_eq]; exact hm _ _ h
  | nilsl t => rfl
  | map g b h => simp only [clean, decide_eq_true_eq]; exact hm _ _ h
  | nilmap => rfl
  | func fn a c a' c' hf hl _ hl' _ ih ih' => rw [clean]; simp only [Bool.and_eq_true]; exact ⟨list hl ih, list hl' ih'⟩
  | yield g l h => simp only [clean, decide_eq_true_eq]; exact hm _ _ h
  | nilfunc => rfl
  | iface t x v _ ih => rw [clean]; exact ih
  | nilif => rfl

theorem LR.isClean {n : Nat} (hm : ∀ b g, G.mu b = some g → b < n) (ht : ∀ t m p, G.tk t m = some p → t < n) {xs : List Value} {vs : List V} (h : LR G xs vs) : ∀ v ∈ vs, clean n v = true := fun v hv => by
  obtain ⟨i, hi, rfl⟩ := List.getElem_of_mem hv
  exact (h.at_ i _ _ (List.getElem?_eq_getElem (by rw [h.len]; exact hi)) (List.getElem?_eq_getElem hi)).isClean hm ht

/-- What stands in a store is clean. -/
theorem Sim.objClean (hs : Sim P G base σ w) {b : Nat} {o : AObj} (h : σ[b]? = some o) : cleanObj σ.length o := by
  have hr := hs.obj b o h
  cases o with
  | cells e cs =>
    obtain ⟨g, c, fz, _, _, _, hl, _⟩ := hs.cells h
    exact hl.isClean hs.mulen hs.tklen
  | tok e n => trivial
  | map es =>
    obtain ⟨g, ces, cl, _, _, h1, h2⟩ := hs.mapAt h
    exact fun e he => ⟨h1.isClean hs.mulen hs.tklen e.1 (List.mem_map.2 ⟨e, he, rfl⟩), h2.isClean hs.mulen hs.tklen e.2 (List.mem_map.2 ⟨e, he, rfl⟩)⟩
  | loop r =>
    obtain ⟨g, hm, hc⟩ := hr
    unfold LoopR at hc
    split at hc
    · obtain ⟨_, _, _, hl, _⟩ := hc; exact hl.isClean hs.mulen hs.tklen
    · exact hc.elim
  | siter s p => trivial
  | dead => trivial

theorem Sim.loopLd (hs : Sim P G base σ w) {b : Nat} {r : ALoop} (h : σ[b]? = some (.loop r)) : ∃ d, G.ld b = some d ∧ G.res d := by
  obtain ⟨g, hm, hc⟩ := hs.obj b _ h
  unfold LoopR at hc
  split at hc
  · obtain ⟨_, _, _, _, _, _, _, h1, h2⟩ := hc; exact ⟨_, h2, h1⟩
  · exact hc.elim

/-- What is newer is forgotten. -/
theorem Sim.restrict {G0 : Mm} {w0 : World} (h0 : Sim P G0 base σ w0) (hs : Sim P G base σ' w) (hle : G0.LE G) (hold : OldOK σ σ') {R : Nat → Prop} (hR : ∀ r, R r → G.res r) (hR0 : ∀ r, G0.res r → R r) :
    G0.LE (restr G σ.length σ' w R) ∧ Sim P (restr G σ.length σ' w R) base (σ'.take σ.length) w := by
  have hle' : G0.LE (restr G σ.length σ' w R) :=
    ⟨fun g o v h => by simp [restr, hle.rom _ _ _ h], fun b g h => by simp [restr, h0.mulen b g h, hle.mu _ _ h], fun t n p h => by simp [restr, h0.tklen t n p h, hle.tk _ _ _ h], hR0, hle.ld⟩
  have blk : ∀ b o g, Blk (restr G σ.length σ' w R) b o g → Blk G b o g := by
    intro b o g hb
    have hmu : (restr G σ.length σ' w R).mu b = some g → G.mu b = some g := fun h => (restr_mu h).2
    cases o with
    | cells e cs => exact hmu hb
    | map es => exact hmu hb
    | loop r => exact hmu hb
    | siter s p => exact hmu hb
    | tok e n =>
      obtain ⟨h1, cap, h2⟩ := hb
      exact ⟨h1, cap, (restr_tk h2).2⟩
    | dead => exact hb
  have at_ : ∀ (b : Nat) o, (σ'.take σ.length)[b]? = some o → b < σ.length ∧ σ'[b]? = some o := by
    intro b o h
    rw [List.getElem?_take] at h
    split at h
    · exact ⟨by assumption, h⟩
    · cases h
  -- the new cells that never change are no block's of an older object
  have romold : ∀ (b : Nat) o g i v, b < σ.length → σ'[b]? = some o → Blk G b o g → (restr G σ.length σ' w R).rom g i = some v → G.rom g i = some v := by
    intro b o g i v hb ho hbk hv
    simp only [restr] at hv
    split at hv
    · rename_i u hu; rw [hu]; exact hv
    · split at hv
      · rename_i hex
        obtain ⟨b', e, cs, hn, hb', hm'⟩ := hex
        have := hs.uniq b o b' _ g ho hb' hbk hm'
        omega
      · cases hv
  refine ⟨hle', ?_⟩
  refine ⟨fun g o v h => ?_, fun b o h => ?_, fun b g h => ?_, fun t n p h => ?_, fun b o b' o' g h h' hb hb' => hs.uniq b o b' o' g (at_ b o h).2 (at_ b' o' h').2 (blk _ _ _ hb) (blk _ _ _ hb'), fun b o g h hb => hs.above b o g (at_ b o h).2 (blk _ _ _ hb), fun r hr => hs.res r (hR r hr), hs.big⟩
  · simp only [restr] at h
    split at h
    · rename_i u hu; rw [← h]; exact hs.rom _ _ _ hu
    · split at h
      · exact h
      · cases h
  · obtain ⟨hb, ho⟩ := at_ b o h
    have hc : cleanObj σ.length o ∧ ∀ r, o = .loop r → ∃ r0, σ[b]? = some (.loop r0) := by
      rcases hold b o hb ho with h1 | h1
      · exact ⟨h0.objClean h1, fun r e => ⟨r, e ▸ h1⟩⟩
      · exact h1
    have hr := hs.obj b o ho
    cases o with
    | cells e cs =>
      obtain ⟨g, hm, hcr⟩ := hr
      refine ⟨g, by simp [restr, hb, hm], ?_⟩
      unfold CellsR at hcr ⊢
      split at hcr
      · rename_i c e' fz hh
        obtain ⟨a1, a2, a3, a4, a5, a6⟩ := hcr
        refine ⟨a1, a2, a3.restr hc.1, a4, fun i => ?_, fun n g' cap ht => ?_⟩
        · cases hri : (restr G σ.length σ' w R).rom g i with
          | none => rfl
          | some v => have := romold b _ g i v hb ho hm hri; rw [a5] at this; cases this
        · exact a6 _ _ _ (restr_tk ht).2
      · exact hcr.elim
    | tok e n =>
      obtain ⟨h1, h2⟩ := hr
      refine ⟨fun m p hp => h1 m p (restr_tk hp).2, ?_⟩
      · rcases h2 with h2 | ⟨g, cap, h3, h4⟩
        · exact .inl h2
        · rcases Nat.eq_zero_or_pos n with hn | hn
          · exact .inl hn
          refine .inr ⟨g, cap, by simp [restr, hb, h3], ?_⟩
          unfold TokR at h4 ⊢
          split at h4
          · rename_i c e' fz hh
            obtain ⟨a1, a2, a3, a4, a5⟩ := h4
            refine ⟨a1, a2, a3, fun i hi => ?_, a5⟩
            cases hri : (restr G σ.length σ' w R).rom g i with
            | none => rfl
            | some v => have := romold b _ g i v hb ho ⟨hn, cap, h3⟩ hri; rw [a4 i hi] at this; cases this
          · exact h4.elim
    | map es =>
      obtain ⟨g, hm, hcr⟩ := hr
      refine ⟨g, by simp [restr, hb, hm], ?_⟩
      unfold MapR at hcr ⊢
      split at hcr
      · exact ⟨hcr.1.restr fun v hv => by obtain ⟨e, he, rfl⟩ := List.mem_map.1 hv; exact (hc.1 e he).1, hcr.2.restr fun v hv => by obtain ⟨e, he, rfl⟩ := List.mem_map.1 hv; exact (hc.1 e he).2⟩
      · exact hcr.elim
    | loop r =>
      obtain ⟨g, hm, hcr⟩ := hr
      refine ⟨g, by simp [restr, hb, hm], ?_⟩
      obtain ⟨r0, hr0⟩ := hc.2 r rfl
      obtain ⟨d, hd1, hd2⟩ := h0.loopLd hr0
      unfold LoopR at hcr ⊢
      split at hcr
      · rename_i l hh
        obtain ⟨a1, a2, a3, a4, a5, a6, a7, a8, a9⟩ := hcr
        have hdl : d = l.defers := by have := hle.ld _ _ hd1; rw [a9] at this; exact (Option.some.inj this).symm
        exact ⟨a1, a2, a3, a4.restr hc.1, a5, a6, a7, hdl ▸ hR0 _ hd2, a9⟩
      · exact hcr.elim
    | siter s p =>
      obtain ⟨g, hm, hcr⟩ := hr
      exact ⟨g, by simp [restr, hb, hm], hcr⟩
    | dead => trivial
  · obtain ⟨h1, h2⟩ := restr_mu h
    have := hs.mulen b g h2; simp; omega
  · obtain ⟨h1, h2⟩ := restr_tk h
    have := hs.tklen t n p h2; simp; omega

end
end Go.Ev
