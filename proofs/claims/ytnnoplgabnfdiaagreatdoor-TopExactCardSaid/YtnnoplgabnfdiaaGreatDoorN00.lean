/- Part 0 of a proof over the shadow machine. -/
import Derived.Test.YtnnoplgabnfdiaaGreatDoorProg
import Derived.RowKit3
import Derived.Below
/- The shadow machine: abstract values, abstract memory, and what each operation does on them. Definitions only. -/
namespace Go.Proofs.YtnnoplgabnfdiaaGreatDoor.Sh
open Go Go.RowKit
set_option linter.unusedVariables false

/-- Values that stay: what is read of memory that nobody writes to. -/
inductive RV where
  | top
  | int (k : IntKind) (n : Int)
  | bool (b : Bool)
  | str (s : ByteArray)
  | nilp
  | nilif
  | ro (s len : Nat) (cap : Option Nat) (row : Nat → List RV)
  deriving Inhabited

/-- Values of a frame. -/
inductive AV where
  | top
  | cint (k : IntKind) (n : Int)
  | int (k : IntKind) (n : Int)
  | bool (b : Bool)
  | str (s : ByteArray)
  | nilp | nilsl | nilfn | nilif
  | ptr (o N s i j : Nat)
  | rp (s : Nat) (row : Nat → List RV) (i j : Nat)
  | sl (o s off len : Nat) (cap : Option Nat)
  | ro (s len : Nat) (cap : Option Nat) (row : Nat → List RV)
  | fn (f : FuncId) (first caps : List AV)
  | iface (t : TypeId) (v : AV)
  | agg (cs : List AV)
  | tup (vs : List AV)
  | when (d : Nat) (want : Bool) (v : AV)
  | mp (o : Nat)
  | nilmp
  deriving Inhabited

def RV.av : RV → AV
  | .top => .top
  | .int k n => .int k n
  | .bool b => .bool b
  | .str s => .str s
  | .nilp => .nilp
  | .nilif => .nilif
  | .ro s len cap row => .ro s len cap row

/-- Objects of the call's own memory. -/
inductive AO where
  | free
  | dead
  | lit (s : Nat) (cells : List AV)
  | rows (s n : Nat) (row : Nat → List AV)
  | emap
  | xmap
  deriving Inhabited

structure AState where
  tmps : List AV
  heap : List AO
  deriving Inhabited

inductive TK where
  | int (k : IntKind) | bool | str | ptr (e : Nat) | slice (e : Nat) | arr (n e : Nat) | struct (fs : List (Nat × Nat)) | func | iface | map (k e : Nat) | uptr | other
structure TI where
  k : TK
  size : Nat
  bytes : Nat
  zero : AV

def TI.agg (t : TI) : Bool := match t.k with | .arr .. | .struct _ => true | _ => false

/-- The table of types. -/
abbrev Tab := List (Nat × TI)
def Tab.get : Tab → Nat → Option TI
  | [], _ => none
  | (n, i) :: r, t => bif n == t then some i else Tab.get r t

def AV.cells : AV → List AV
  | .agg cs => cs
  | v => [v]

/-- Of two values the one: in the leaves. -/
def merge (b : Bool) : AV → AV → AV
  | .int k x, .int k' y => bif k == k' then .int k (bif b then x else y) else .top
  | .int k x, .cint k' y => bif k == k' then .int k (bif b then x else y) else .top
  | .cint k x, .int k' y => bif k == k' then .int k (bif b then x else y) else .top
  | .cint k x, .cint k' y => bif k == k' then .int k (bif b then x else y) else .top
  | .bool x, .bool y => .bool (bif b then x else y)
  | .str x, .str y => .str (bif b then x else y)
  | .ro s len _ row, .ro s' len' _ row' => bif Nat.beq s s' then .ro s (bif b then len else len') none (fun i => bif b then row i else row' i) else .top
  | .fn f xs ys, y => bif b then .fn f xs ys else y
  | .nilfn, y => bif b then .nilfn else y
  | _, _ => .top
def merges (b : Bool) : List AV → List AV → List AV
  | x :: xs, y :: ys => merge b x y :: merges b xs ys
  | _, _ => []

/-- The i-th of them, in the leaves. -/
def sel (i : Nat) : List AV → AV
  | [] => .top
  | [c] => c
  | c :: d :: cs => merge (i == 0) c (sel (i - 1) (d :: cs))

def nth {α : Type} (d : α) : List α → Nat → α
  | [], _ => d
  | x :: _, 0 => x
  | _ :: xs, n + 1 => nth d xs n
def setNth {α : Type} : List α → Nat → α → List α
  | [], _, _ => []
  | _ :: xs, 0, y => y :: xs
  | x :: xs, n + 1, y => x :: setNth xs n y
/-- From place j on, n of them. -/
def cut {α : Type} (d : α) (cs : List α) : Nat → Nat → List α
  | j, 0 => []
  | j, n + 1 => nth d cs j :: cut d cs (j + 1) n
/-- vs put in from place j on. -/
def over {α : Type} : List α → List α → List α
  | [], _ => []
  | c :: cs, [] => c :: cs
  | _ :: cs, v :: vs => v :: over cs vs
def paste {α : Type} : List α → Nat → List α → List α
  | [], _, _ => []
  | c :: cs, 0, vs => over (c :: cs) vs
  | c :: cs, j + 1, vs => c :: paste cs j vs

/-- From place p on, in steps of s, n of them. -/
def cands (cells : List AV) (s : Nat) : Nat → Nat → List AV
  | _, 0 => []
  | p, n + 1 => nth .top cells p :: cands cells s (p + s) n
/-- What lies at places (i, j): of a variable (N candidates in steps of s; N ≤ 1: the one), or of a row. -/
def readLit (cells : List AV) (N s i : Nat) : Nat → Nat → List AV
  | _, 0 => []
  | j, m + 1 => (match N with | 0 | 1 => nth .top cells j | _ => sel i (cands cells s j N)) :: readLit cells N s i (j + 1) m
/-- v at the i-th of n places from p on, in steps of s. -/
def writeDyn (s i : Nat) (v : AV) : List AV → Nat → Nat → Nat → List AV
  | cells, _, _, 0 => cells
  | cells, k, p, n + 1 => writeDyn s i v (setNth cells p (merge (i == k) v (nth .top cells p))) (k + 1) (p + s) n
def oneCell? : AV → Bool
  | .top | .agg _ | .tup _ | .when .. => false
  | _ => true
/-- What is kept on a store. -/
def writeLit (N s i : Nat) (cells : List AV) (j : Nat) (vs : List AV) : Option (List AV) :=
  match N with
  | 0 | 1 => bif Nat.beq i 0 && Nat.ble (j + vs.length) cells.length then some (paste cells j vs) else none
  | _ => match vs with
    | [v] => bif Nat.blt ((N - 1) * s + j) cells.length && Nat.blt 0 s then some (writeDyn s i v cells 0 j N) else none
    | _ => none

structure Out where
  ob : List Prop
  val : AV
  upd : List (Nat × AO) := []
  kill : Option Nat := none

def intOf? : AV → Option (IntKind × Int)
  | .int k n => some (k, n)
  | .cint k n => some (k, n)
  | _ => none

def arith (op : BinOp) (k : IntKind) (a b : Int) : Option Out :=
  match op with
  | .add => some ⟨[], .int k (k.wrap (a + b)), [], none⟩
  | .sub => some ⟨[], .int k (k.wrap (a - b)), [], none⟩
  | .mul => some ⟨[], .int k (k.wrap (a * b)), [], none⟩
  | .quo => some ⟨[b ≠ 0], .int k (k.wrap (a.tdiv b)), [], none⟩
  | .rem => some ⟨[b ≠ 0], .int k (a.tmod b), [], none⟩
  | .eql => some ⟨[], .bool (a == b), [], none⟩
  | .neq => some ⟨[], .bool (a != b), [], none⟩
  | .lss => some ⟨[], .bool (decide (a < b)), [], none⟩
  | .leq => some ⟨[], .bool (decide (a ≤ b)), [], none⟩
  | .gtr => some ⟨[], .bool (decide (a > b)), [], none⟩
  | .geq => some ⟨[], .bool (decide (a ≥ b)), [], none⟩
  | _ => none

/-- Equality of values of whole numbers and bools, cell by cell. -/
def eqCells : List AV → List AV → Option Bool
  | [], [] => some true
  | x :: xs, y :: ys =>
    match intOf? x, intOf? y with
    | some (k, a), some (k', b) => bif k == k' then (match xs with
      | [] => some (a == b)
      | _ => (eqCells xs ys).map fun r => (a == b) && r) else none
    | _, _ => none
  | _, _ => none

/-- As many. -/
def sameLen : List AV → List AV → Bool
  | [], [] => true
  | _ :: xs, _ :: ys => sameLen xs ys
  | _, _ => false
def lenAs (T : Tab) (t : Nat) (xs : List AV) : Bool := match T.get t with
  | some i => sameLen xs i.zero.cells
  | none => false
def binop (T : Tab) (eqs : List Nat) (op : BinOp) (t : TypeId) (x y : AV) : Option Out :=
  match x, y with
  | .bool a, .bool b => match T.get t with
    | some ⟨.bool, _, _, _⟩ => match op with
      | .eql => some ⟨[], .bool (a == b), [], none⟩
      | .neq => some ⟨[], .bool (!(a == b)), [], none⟩
      | _ => none
    | _ => none
  | .agg xs, .agg ys => bif eqs.elem t && (lenAs T t xs && lenAs T t ys) then (match op with
    | .eql => (eqCells xs ys).map fun r => ⟨[], .bool r, [], none⟩
    | .neq => (eqCells xs ys).map fun r => ⟨[], .bool (!r), [], none⟩
    | _ => none) else none
  | .nilsl, .nilsl => match T.get t with
    | some ⟨.slice _, _, _, _⟩ => match op with
      | .eql => some ⟨[], .bool true, [], none⟩
      | .neq => some ⟨[], .bool false, [], none⟩
      | _ => none
    | _ => none
  | .int k a, .int k' b => bif k == k' then arith op k a b else none
  | .int k a, .cint k' b => bif k == k' then arith op k a b else none
  | .cint k a, .int k' b => bif k == k' then arith op k a b else none
  | .cint k a, .cint k' b => bif k == k' then arith op k a b else none
  | _, _ => none

def fieldOf (T : Tab) (t f : Nat) : Option (Nat × Nat × Bool) :=
  match T.get t with
  | some ⟨.struct fs, _, _, _⟩ => match fs[f]? with
    | some (off, ft) => match T.get ft with
      | some i => bif Nat.blt 0 i.size then some (off, i.size, i.agg) else none
      | none => none
    | none => none
  | _ => none
def pack (agg : Bool) (cs : List AV) : AV := bif agg then .agg cs else nth .top cs 0

/-- Has it just the cells that it shows? -/
def cellsOk : AV → Bool
  | .agg _ => true
  | v => oneCell? v
/-- A list, put into its plain form. -/
def fS {R : Sort _} : List AV → (List AV → R) → R
  | [], k => k []
  | v :: vs, k => fS vs fun vs => k (v :: vs)
/-- The parts of a struct or an array laid into its cells. -/
def fillParts (place : Nat → Option (Nat × Nat)) : List AV → List (Nat × AV) → Option (List AV)
  | cs, [] => some cs
  | cs, (i, v) :: r => match place i with
    | some (off, size) => bif cellsOk v && (Nat.beq v.cells.length size && Nat.ble (off + size) cs.length) then fS (paste cs off v.cells) fun cs => fillParts place cs r else none
    | none => none
def zeros (zc : List AV) : Nat → List AV
  | 0 => []
  | n + 1 => zc ++ zeros zc n
/-- The places of a struct's fields. -/
def placesOf (T : Tab) : List (Nat × Nat) → Option (List (Nat × Nat))
  | [] => some []
  | (off, ft) :: r => match T.get ft, placesOf T r with
    | some i, some l => some ((off, i.size) :: l)
    | _, _ => none

def constAV : Value → AV
  | .int k n => .cint k n
  | .bool b => .bool b
  | .string s => .str s
  | .pointer none => .nilp
  | .slice none 0 0 => .nilsl
  | .nilFunc => .nilfn
  | .map none => .nilmp
  | .nilIface => .nilif
  | _ => .top

/-- A slice's rows, as they lie now. -/
def rowsAt (s : Nat) : AO → Nat → List RV
  | _, _ => []

def getTmp (s : AState) (t : Nat) : AV := nth .top s.tmps t
/-- What was told under a guard that slot t held falls away when t is written. -/
def unwhen (t : Nat) : AV → AV
  | .when d b v => bif d == t then .top else .when d b v
  | v => v
def AState.put (s : AState) (d : Option Nat) (v : AV) : AState :=
  match d with
  | some t => ⟨setNth (s.tmps.map (unwhen t)) t (unwhen t v), s.heap⟩
  | none => s

/-- What must hold for a guarded operation to run: slots and what they must hold, the last one first. -/
def chain (s : AState) : Nat → Nat → Bool → List (Nat × Bool)
  | 0, d, b => [(d, b)]
  | n + 1, d, b => (d, b) :: (match getTmp s d with | .when d' b' _ => chain s n d' b' | _ => [])
def inChain : List (Nat × Bool) → Nat → Bool → Bool
  | [], _, _ => false
  | (d, b) :: r, d', b' => (d == d' && b == b') || inChain r d' b'
def strip (ch : List (Nat × Bool)) : AV → AV
  | .when d b v => bif inChain ch d b then v else .top
  | v => v
def ev (ch : List (Nat × Bool)) (s : AState) : Operand → AV
  | .tmp t => strip ch (getTmp s t)
  | .const v => constAV v
  | .func f => .fn f [] []
  | .global _ => .top
/-- The condition of a chain. -/
def chainCond {R : Sort _} (s : AState) : List (Nat × Bool) → Prop → (Prop → R) → R
  | [], p, k => k p
  | (d, w) :: r, p, k => match getTmp s d with
    | .bool b => match w with
      | true => chainCond s r (b = true → p) k
      | false => chainCond s r (b = false → p) k
    | .when _ _ (.bool b) => match w with
      | true => chainCond s r (b = true → p) k
      | false => chainCond s r (b = false → p) k
    | _ => chainCond s r p k

def rd (look : Nat → AO) : AV → Nat → Option (List Prop × List AV)
  | .ptr o N s i j, m => match look o with
    | .lit _ cells => match N with
      | 0 | 1 => bif Nat.beq i 0 && Nat.ble (j + m) cells.length then some ([], readLit cells N s i j m) else none
      | _ => bif Nat.ble ((N - 1) * s + j + m) cells.length then some ([i < N], readLit cells N s i j m) else none
    | .rows s' n row => bif s == s' && Nat.ble (j + m) s then some ([i < n], cut .top (row i) j m) else none
    | _ => none
  | .rp s row i j, m => bif Nat.ble (j + m) s then some ([], (cut .top (row i) j m).map RV.av) else none
  | _, _ => none

def AV.rv : AV → RV
  | .int k n => .int k n
  | .cint k n => .int k n
  | .bool b => .bool b
  | .str s => .str s
  | .nilp => .nilp
  | .nilif => .nilif
  | .ro s len cap row => .ro s len cap row
  | _ => .top
/-- A slice as it lies now, for a callee that only reads. -/
def freeze1 (look : Nat → AO) : AV → AV
  | .sl o s off len cap => match look o with
    | .rows s' n row => bif s == s' then .ro s len cap fun i => (row (off + i)).map AV.rv else .top
    | .lit u cells => bif s == u then .ro s len cap fun i => (readLit cells (cells.length / s) s (off + i) 0 s).map AV.rv else .top
    | _ => .top
  | .nilsl => .ro 0 0 (some 0) fun _ => []
  | .cint k n => .int k n
  | .int k n => .int k n
  | .bool b => .bool b
  | .str s => .str s
  | .nilp => .nilp
  | .nilfn => .nilfn
  | .nilif => .nilif
  | .rp s row i j => .rp s row i j
  | .ro s len cap row => .ro s len cap row
  | .fn f [] [] => .fn f [] []
  | _ => .top
/-- What must hold for that. -/
def frOb1 (look : Nat → AO) : AV → List Prop
  | .sl o s off len cap => match look o with
    | .rows s' n row => match cap with
      | none => [off + len ≤ n]
      | some c => [off + c ≤ n]
    | _ => []
  | _ => []
def frOb (look : Nat → AO) : AV → List Prop
  | .agg cs => cs.flatMap (frOb1 look)
  | v => frOb1 look v
def frObR (look : Nat → AO) : AV → List Prop
  | .tup vs => vs.flatMap (frOb look)
  | v => frOb look v
def freeze (look : Nat → AO) : AV → AV
  | .agg cs => .agg (cs.map (freeze1 look))
  | v => freeze1 look v
/-- A result, all of whose memory stays from now on. -/
def freezeR (look : Nat → AO) : AV → AV
  | .tup vs => .tup (vs.map (freeze look))
  | v => freeze look v
def isPlain : AV → Bool
  | .int .. | .cint .. | .bool _ | .str _ | .nilif | .nilp | .nilsl => true
  | _ => false
def plain : AV → Bool
  | .agg cs => cs.all isPlain
  | .tup vs => vs.all fun v => match v with | .agg cs => cs.all isPlain | v => isPlain v
  | v => isPlain v
def froze1 : AV → Bool
  | .sl .. => true
  | _ => false
def froze : AV → Bool
  | .agg cs => cs.any froze1
  | v => froze1 v

/-- What a quiet function tells: of its arguments what must hold, and its result. -/
abbrev QSpec := List AV → Option (List Prop × AV)
abbrev Env := List (FuncId × QSpec)
def Env.get : Env → FuncId → Option QSpec
  | [], _ => none
  | (g, q) :: r, f => bif g == f then some q else Env.get r f

def lenOf? : AV → Option AV
  | .sl _ _ _ n _ => some (.int .i64 (n : Int))
  | .ro _ n _ _ => some (.int .i64 (n : Int))
  | .nilsl => some (.cint .i64 0)
  | _ => none
def capOf? : AV → Option AV
  | .sl _ _ _ _ (some c) => some (.int .i64 (c : Int))
  | .ro _ _ (some c) _ => some (.int .i64 (c : Int))
  | .nilsl => some (.cint .i64 0)
  | _ => none
def builtinOp (T : Tab) (b : Builtin) (ts : List TypeId) (vs : List AV) : Option Out :=
  match b, ts, vs with
  | .len, t :: _, [x] => match T.get t, x with
    | some ⟨.slice _, _, _, _⟩, x => (lenOf? x).map fun v => ⟨[], v, [], none⟩
    | some ⟨.str, _, _, _⟩, .str s => some ⟨[], .int .i64 (s.size : Int), [], none⟩
    | _, _ => none
  | .cap, t :: _, [x] => match T.get t with
    | some ⟨.slice _, _, _, _⟩ => (capOf? x).map fun v => ⟨[], v, [], none⟩
    | _ => none
  | .min, _, [x, y] => match intOf? x, intOf? y with
    | some (k, a), some (_, b) => some ⟨[], .int k (if b < a then b else a), [], none⟩
    | _, _ => none
  | .max, _, [x, y] => match intOf? x, intOf? y with
    | some (k, a), some (_, b) => some ⟨[], .int k (if a < b then b else a), [], none⟩
    | _, _ => none
  | _, _, _ => none

/-- What leads to object o falls away. -/
def kill0 (o : Nat) : AV → AV
  | .ptr o' N s i j => bif o' == o then .top else .ptr o' N s i j
  | .sl o' s off len cap => bif o' == o then .top else .sl o' s off len cap
  | .mp o' => bif o' == o then .top else .mp o'
  | .fn f [] [] => .fn f [] []
  | .fn .. | .iface .. | .agg _ | .tup _ | .when .. => .top
  | v => v
def kill1 (o : Nat) : AV → AV
  | .agg cs => .agg (cs.map (kill0 o))
  | v => kill0 o v
def kill2 (o : Nat) : AV → AV
  | .tup vs => .tup (vs.map (kill1 o))
  | .fn f a b => .fn f (a.map (kill1 o)) (b.map (kill1 o))
  | .iface t v => .iface t (kill1 o v)
  | .when d b v => .when d b (kill1 o v)
  | v => kill1 o v
def killO (o : Nat) : AO → AO
  | .lit s cs => .lit s (cs.map (kill1 o))
  | .rows s n row => .rows s n fun i => (row i).map (kill0 o)
  | x => x
def capSub : Option Nat → Nat → Option Nat
  | none, _ => none
  | some c, n => some (c - n)
/-- A bound of a slice expression: what it is, and that it is a number. -/
def boundOf : Option AV → Nat → Option (Option Int × Nat)
  | none, d => some (none, d)
  | some v, _ => match intOf? v with
    | some (_, n) => some (some n, n.toNat)
    | none => none
def loOk : Option Int → Nat → Prop
  | none, _ => True
  | some n, h => 0 ≤ n ∧ n ≤ h
/-- The rows from l on; as they are, if l is not told. -/
def rowsFrom {α : Type} (lo : Option Int) (row : Nat → List α) : Nat → List α :=
  match lo with
  | none => row
  | some n => fun i => row (n.toNat + i)
def natFrom (lo : Option Int) (x : Nat) : Nat := match lo with | none => x | some n => x + n.toNat
def natLess (lo : Option Int) (x : Nat) : Nat := match lo with | none => x | some n => x - n.toNat
def capLess (lo : Option Int) (x : Option Nat) : Option Nat := match lo with | none => x | some n => capSub x n.toNat
/-- x[lo:hi]. -/
def sliceOp (T : Tab) (look : Nat → AO) (t : TypeId) (x : AV) (lo hi : Option AV) : Option Out :=
  match T.get t, x with
  | some ⟨.slice e, _, _, _⟩, .nilsl => match T.get e, boundOf hi 0, boundOf lo 0 with
    | some _, some (hb, h), some (lb, l) => some ⟨[loOk hb 0, loOk lb 0], .nilsl, [], none⟩
    | _, _, _ => none
  | some ⟨.slice e, _, _, _⟩, .ro s len cap row => match T.get e, boundOf hi len, boundOf lo 0 with
    | some ei, some (hb, h), some (lb, l) => bif ei.size == s then some ⟨[loOk hb (cap.getD len), loOk lb h], .ro s (natLess lb h) (capLess lb cap) (rowsFrom lb row), [], none⟩ else none
    | _, _, _ => none
  | some ⟨.slice e, _, _, _⟩, .sl o s off len cap => match T.get e, boundOf hi len, boundOf lo 0 with
    | some ei, some (hb, h), some (lb, l) => bif ei.size == s then some ⟨[loOk hb (cap.getD len), loOk lb h], .sl o s (natFrom lb off) (natLess lb h) (capLess lb cap), [], none⟩ else none
    | _, _, _ => none
  | some ⟨.arr n e, _, _, _⟩, .ptr o 1 1 0 0 => match lo, hi, T.get e, look o with
    | none, none, some ei, .lit 1 cells => bif ei.size == 1 && (cells.length == n && Nat.blt 0 n) then some ⟨[], .sl o 1 0 n (some n), [], none⟩ else none
    | _, _, _, _ => none
  | _, _ => none
/-- x[lo:hi:max], at numbers of the text: x[:0:0]. -/
def sliceMax (T : Tab) (t : TypeId) (x : AV) (lo hi mx : Option AV) : Option Out :=
  match T.get t, lo, hi, mx with
  | some ⟨.slice e, _, _, _⟩, none, some (.cint _ 0), some (.cint _ 0) => match T.get e with
    | some _ => match x with
      | .ro _ _ _ _ | .sl _ _ _ _ _ | .nilsl => some ⟨[], .ro 0 0 (some 0) fun _ => [], [], none⟩
      | _ => none
    | none => none
  | _, _, _, _ => none
/-- A slice's rows (of z cells each), for an append. -/
def srcRows (look : Nat → AO) (z : Nat) : AV → Option (List Prop × Nat × (Nat → List AV))
  | .nilsl => some ([], 0, fun _ => [])
  | .ro 0 0 _ _ => some ([], 0, fun _ => [])
  | .ro s len _ row => bif s == z then some ([], len, fun i => (row i).map RV.av) else none
  | .sl o s off len _ => bif s == z then (match look o with
    | .rows s' n row => bif s == s' then some ([off + len ≤ n], len, fun i => row (off + i)) else none
    | .lit u cells => bif s == u then (match len with
      | 1 => bif Nat.ble (off * s + s) cells.length then some ([], 1, fun _ => cut .top cells (off * s) s) else none
      | _ => some ([], len, fun i => readLit cells (cells.length / s) s (off + i) 0 s)) else none
    | _ => none) else none
  | _ => none
/-- append(x, y...): what x had, and y behind it, in an object of its own; in place, if x has a capacity that is known. -/
def appendOp (T : Tab) (base : Nat) (look : Nat → AO) (t : TypeId) (x y : AV) (nid : Nat) : Option Out :=
  match T.get t with
  | some ⟨.slice e, _, _, _⟩ => match T.get e with
    | some ei => bif Nat.blt 0 ei.size && Nat.blt 0 ei.bytes then (match srcRows look ei.size y with
      | some (pr, m, r) => match x with
        | .nilsl => some ⟨pr ++ [m * ei.bytes ≤ 140737488355328], .sl nid ei.size 0 m none, [(nid, .rows ei.size m r)], none⟩
        | .ro _ 0 (some 0) _ => some ⟨pr ++ [m * ei.bytes ≤ 140737488355328], .sl nid ei.size 0 m none, [(nid, .rows ei.size m r)], none⟩
        | .sl o s 0 len (some c) => match look o with
          | .rows s' n row => bif s == s' && s == ei.size then some ⟨pr ++ [len + m ≤ c, c ≤ n, (len + m) * ei.bytes ≤ 140737488355328, ∀ i, i < m → (r i).length = s ∧ (r i).all oneCell? = true], .sl o s 0 (len + m) (some c), [(o, .rows s n fun i => merges (decide (len ≤ i) && decide (i < len + m)) (r (i - len)) (row i))], none⟩ else none
          | _ => none
        | .sl o s 0 len none => match look o with
          | .rows s' n row => bif s == s' && (s == ei.size && Nat.ble base o) then some ⟨pr ++ [n = len, (len + m) * ei.bytes ≤ 140737488355328, ∀ i, i < m → (r i).length = s ∧ (r i).all oneCell? = true], .sl o s 0 (len + m) none, [(o, .rows s (len + m) fun i => merges (decide (i < len)) ((row i).map (kill0 o)) ((r (i - len)).map (kill0 o)))], some o⟩ else none
          | _ => none
        | _ => none
      | none => none) else none
    | none => none
  | _ => none
def clearOp (T : Tab) (look : Nat → AO) (t : TypeId) (x : AV) : Option Out :=
  match T.get t, x with
  | some ⟨.slice e, _, _, _⟩, .sl o s off len cap => match T.get e, look o with
    | some ei, .rows s' n row => bif s == s' && (s == ei.size && (Nat.blt 0 ei.size && ei.zero.cells.all oneCell?)) then some ⟨[off + len ≤ n], .tup [], [(o, .rows s n fun i => merges (decide (off ≤ i) && decide (i < off + len)) ei.zero.cells (row i))], none⟩ else none
    | _, _ => none
  | _, _ => none

def rowsT (st : Nat) : List Nat → List AV → Nat
  | [], _ => 0
  | k :: ks, [] => k
  | k :: ks, c :: cs => rowsT st ks (List.drop st (c :: cs))
/-- How many rows of st cells. -/
def rowsN (cs : List AV) (st : Nat) : Nat := rowsT st [0, 1, 2, 3, 4, 5, 6, 7, 8, 9, 10, 11, 12, 13, 14, 15, 16] cs
/-- &x[ix]. -/
def indexAddrOp (T : Tab) (look : Nat → AO) (t : TypeId) (x ix : AV) : Option Out :=
  match T.get t, x, ix with
  | some ⟨.slice e, _, _, _⟩, .sl o st off len _, .cint _ n => match T.get e with
    | some ei => bif ei.size == st then some ⟨[0 ≤ n ∧ n < len], (match look o with | .lit _ _ => .ptr o 1 1 0 ((off + n.toNat) * st) | _ => .ptr o 0 st (off + n.toNat) 0), [], none⟩ else none
    | none => none
  | some ⟨.slice e, _, _, _⟩, .sl o st off len _, .int _ n => match T.get e with
    | some ei => bif ei.size == st then some ⟨[0 ≤ n ∧ n < len], (match look o with | .lit _ cs => .ptr o (rowsN cs st) st (off + n.toNat) 0 | _ => .ptr o 0 st (off + n.toNat) 0), [], none⟩ else none
    | none => none
  | some ⟨.slice e, _, _, _⟩, .ro st len _ row, .cint _ n => match T.get e with
    | some ei => bif ei.size == st && Nat.blt 0 st then some ⟨[0 ≤ n ∧ n < len], .rp st row n.toNat 0, [], none⟩ else none
    | none => none
  | some ⟨.slice e, _, _, _⟩, .ro st len _ row, .int _ n => match T.get e with
    | some ei => bif ei.size == st && Nat.blt 0 st then some ⟨[0 ≤ n ∧ n < len], .rp st row n.toNat 0, [], none⟩ else none
    | none => none
  | some ⟨.arr n e, _, _, _⟩, .ptr o N st i j, .cint _ q => match T.get e with
    | some ei => some ⟨[0 ≤ q ∧ q < n], .ptr o N st i (j + q.toNat * ei.size), [], none⟩
    | none => none
  | some ⟨.arr n e, _, _, _⟩, .ptr o 1 1 0 j, .int _ q => match T.get e with
    | some ei => some ⟨[0 ≤ q ∧ q < n], .ptr o n ei.size q.toNat j, [], none⟩
    | none => none
  | _, _, _ => none

def quiet (G : Env) (look : Nat → AO) (f : FuncId) (vs : List AV) : Option Out :=
  match G.get f with
  | some q => match q (vs.map (freeze look)) with
    | some (ob, r) => bif vs.any froze && !plain r then none else some ⟨vs.flatMap (frOb look) ++ ob, r, [], none⟩
    | none => none
  | none => none

def core1 (G : Env) (T : Tab) (eqs : List Nat) (base : Nat) (op : Op) (ch : List (Nat × Bool)) (s : AState) (nid : Nat) : Option Out :=
  match op with
  | .move x | .assign x => some ⟨[], ev ch s x, [], none⟩
  | .pick c a b => match ev ch s c with
    | .bool x => match c with
      | .tmp d => match ev ((d, true) :: ch) s a, ev ((d, false) :: ch) s b with
        | .bool p, .bool q => some ⟨[], .bool (bif x then p else q), [], none⟩
        | p, q => some ⟨[], merge x p q, [], none⟩
      | _ => some ⟨[], merge x (ev ch s a) (ev ch s b), [], none⟩
    | _ => none
  | .alloc t => match T.get t with
    | some i => some ⟨[], .ptr nid 1 1 0 0, [(nid, .lit 1 i.zero.cells)], none⟩
    | none => none
  | .box t x => bif cellsOk (ev ch s x) then some ⟨[], .ptr nid 1 1 0 0, [(nid, .lit 1 (ev ch s x).cells)], none⟩ else none
  | .build t parts => match T.get t with
    | some i => match i.k with
      | .struct fs => match placesOf T fs with
        | some pl => match fillParts (fun f => pl[f]?) i.zero.cells (parts.toList.map fun p => (p.1, ev ch s p.2)) with
          | some cs => some ⟨[], .agg cs, [], none⟩
          | none => none
        | none => none
      | .arr _ e => match T.get e with
        | some ei => match fillParts (fun f => some (f * ei.size, ei.size)) i.zero.cells (parts.toList.map fun p => (p.1, ev ch s p.2)) with
          | some cs => some ⟨[], .agg cs, [], none⟩
          | none => none
        | none => none
      | _ => none
    | none => none
  | .buildSlice t len parts => match T.get t with
    | some ⟨.slice e, _, _, _⟩ => match T.get e with
      | some ei => bif Nat.beq len 0 && parts.toList.isEmpty then some ⟨[], .ro 0 0 (some 0) fun _ => [], [(nid, .dead)], none⟩ else bif Nat.blt 0 len && (Nat.blt 0 ei.size && Nat.ble (len * ei.size) 1000) then (match fillParts (fun f => some (f * ei.size, ei.size)) (zeros ei.zero.cells len) (parts.toList.map fun p => (p.1, ev ch s p.2)) with
        | some cs => some ⟨[], .sl nid ei.size 0 len (some len), [(nid, .lit ei.size cs)], none⟩
        | none => none) else none
      | none => none
    | _ => none
  | .load t a => match T.get t with
    | some i => bif Nat.beq i.size 0 then none else match rd (fun o => nth .free s.heap o) (ev ch s a) i.size with
      | some (p, cs) => some ⟨p, pack i.agg cs, [], none⟩
      | none => none
    | none => none
  | .store t a v => match T.get t with
    | some i => bif Nat.beq i.size (ev ch s v).cells.length && (ev ch s v).cells.all oneCell? then
        match ev ch s a with
        | .ptr o N st ix j => bif Nat.blt 0 (ev ch s v).cells.length then match nth .free s.heap o with
          | .lit u cells => match writeLit N st ix cells j (ev ch s v).cells with
            | some cs => match N with
              | 0 | 1 => some ⟨[], .top, [(o, .lit u cs)], none⟩
              | _ => some ⟨[ix < N], .top, [(o, .lit u cs)], none⟩
            | none => none
          | .rows s' n row => bif st == s' && Nat.ble (j + (ev ch s v).cells.length) st then some ⟨[ix < n], .top, [(o, .rows s' n fun r => merges (r == ix) (paste (row r) j (ev ch s v).cells) (row r))], none⟩ else none
          | _ => none
          else none
        | _ => none
      else none
    | none => none
  | .nilCheck x => match ev ch s x with
    | .rp st row i j => some ⟨[], .rp st row i j, [], none⟩
    | .ptr o N st i j => some ⟨[], .ptr o N st i j, [], none⟩
    | .fn f a b => some ⟨[], .fn f a b, [], none⟩
    | _ => none
  | .binOp o t x y _ => binop T eqs o t (ev ch s x) (ev ch s y)
  | .unOp o _ x => match o, ev ch s x with
    | .neg, .int k n => some ⟨[], .int k (k.wrap (0 - n)), [], none⟩
    | .neg, .cint k n => some ⟨[], .int k (k.wrap (0 - n)), [], none⟩
    | .not, .bool b => some ⟨[], .bool (!b), [], none⟩
    | _, _ => none
  | .convert src dst x => match T.get src, T.get dst, intOf? (ev ch s x) with
    | some _, some ⟨.int k, _, _, _⟩, some (_, n) => some ⟨[], .int k (k.wrap n), [], none⟩
    | _, _, _ => none
  | .makeFunc f first caps => match f with
    | .func g => some ⟨[], .fn g (first.toList.map (ev ch s)) (caps.toList.map (ev ch s)), [], none⟩
    | _ => none
  | .fieldAddr t x f => match ev ch s x, fieldOf T t f with
    | .ptr o N st i j, some (off, _, _) => some ⟨[], .ptr o N st i (j + off), [], none⟩
    | .rp st row i j, some (off, _, _) => some ⟨[], .rp st row i (j + off), [], none⟩
    | _, _ => none
  | .field t x f => match ev ch s x, fieldOf T t f with
    | .agg cs, some (off, n, a) => bif Nat.ble (off + n) cs.length then some ⟨[], pack a (cut .top cs off n), [], none⟩ else none
    | _, _ => none
  | .indexAddr t x ix => indexAddrOp T (fun o => nth .free s.heap o) t (ev ch s x) (ev ch s ix)
  | .index t x ix => match T.get t, ev ch s x, ev ch s ix with
    | some ⟨.arr n e, _, _, _⟩, .agg cs, .cint _ q => match T.get e with
      | some ei => bif Nat.blt 0 ei.size && Nat.beq cs.length (n * ei.size) then some ⟨[0 ≤ q ∧ q < n], pack ei.agg (cut .top cs (q.toNat * ei.size) ei.size), [], none⟩ else none
      | none => none
    | some ⟨.arr n e, _, _, _⟩, .agg cs, .int _ q => match T.get e with
      | some ei => bif Nat.blt 0 ei.size && Nat.beq cs.length (n * ei.size) then some ⟨[0 ≤ q ∧ q < n], pack ei.agg (readLit cs n ei.size q.toNat 0 ei.size), [], none⟩ else none
      | none => none
    | _, _, _ => none
  | .makeSlice t l c => match T.get t with
    | some ⟨.slice e, _, _, _⟩ => match T.get e, intOf? (ev ch s l), intOf? (ev ch s c) with
      | some ei, some (_, n), some (_, m) => bif Nat.blt 0 ei.bytes && Nat.blt 0 ei.size then some ⟨[0 ≤ n ∧ n ≤ m ∧ m * ei.bytes ≤ 281474976710656], .sl nid ei.size 0 n.toNat (some m.toNat), [(nid, .rows ei.size m.toNat fun _ => ei.zero.cells)], none⟩ else none
      | _, _, _ => none
    | _ => none
  | .slice t x lo hi mx => match mx with
    | some _ => sliceMax T t (ev ch s x) (lo.map (ev ch s)) (hi.map (ev ch s)) (mx.map (ev ch s))
    | none => sliceOp T (fun o => nth .free s.heap o) t (ev ch s x) (lo.map (ev ch s)) (hi.map (ev ch s))
  | .extract x i => match ev ch s x with
    | .tup vs => bif Nat.blt i vs.length then some ⟨[], nth .top vs i, [], none⟩ else none
    | _ => none
  | .makeInterface t x => match T.get t with
    | some ⟨.iface, _, _, _⟩ => none
    | some _ => some ⟨[], .iface t (ev ch s x), [], none⟩
    | none => none
  | .call c => match c.callee with
    | .builtin .append => match c.args.toList.map (ev ch s), c.argTypes.toList with
      | [x, y], [t, t'] => bif t == t' then appendOp T base (fun o => nth .free s.heap o) t x y nid else none
      | _, _ => none
    | .builtin .clear => match c.args.toList.map (ev ch s), c.argTypes.toList with
      | [x], t :: _ => clearOp T (fun o => nth .free s.heap o) t x
      | _, _ => none
    | .builtin b => builtinOp T b c.argTypes.toList (c.args.toList.map (ev ch s))
    | .value f => match ev ch s f with
      | .fn g first caps => quiet G (fun o => nth .free s.heap o) g (first ++ c.args.toList.map (ev ch s) ++ caps)
      | _ => none
    | _ => none
  | _ => none

/-! ### More operations -/
def keyOk : TK → Bool
  | .int _ | .str => true
  | _ => false
def byteAt (s : ByteArray) (i : Nat) : Int := ((s.data.toList.getD i 0).toNat : Int)
def eqlOr (op : BinOp) (b : Bool) : Option Out :=
  match op with
  | .eql => some ⟨[], .bool b, [], none⟩
  | .neq => some ⟨[], .bool (!b), [], none⟩
  | _ => none
def binop2 (T : Tab) (op : BinOp) (t : TypeId) (x y : AV) : Option Out :=
  match x, y with
  | .str a, .str b => match op with
    | .add => some ⟨[a.size + b.size ≤ 9223372036854775807], .str (a ++ b), [], none⟩
    | op => eqlOr op (a.data.toList == b.data.toList)
  | .ptr .., .nilp | .nilp, .ptr .. | .rp .., .nilp | .nilp, .rp .. => match T.get t with
    | some ⟨.ptr _, _, _, _⟩ => eqlOr op false
    | _ => none
  | .nilp, .nilp => match T.get t with
    | some ⟨.ptr _, _, _, _⟩ => eqlOr op true
    | _ => none
  | .fn .., .nilfn | .nilfn, .fn .. => match T.get t with
    | some ⟨.func, _, _, _⟩ => eqlOr op false
    | _ => none
  | .nilfn, .nilfn => match T.get t with
    | some ⟨.func, _, _, _⟩ => eqlOr op true
    | _ => none
  | .iface .., .nilif | .nilif, .iface .. => match T.get t with
    | some ⟨.iface, _, _, _⟩ => eqlOr op false
    | _ => none
  | _, _ => none
def core2 (T : Tab) (op : Op) (ch : List (Nat × Bool)) (s : AState) (nid : Nat) : Option Out :=
  match op with
  | .binOp o t x y _ => match ev ch s x, ev ch s y, y with
    | .nilif, .nilif, .const _ => match T.get t with
      | some ⟨.iface, _, _, _⟩ => eqlOr o true
      | _ => none
    | u, v, _ => binop2 T o t u v
  | .makeMap t none => match T.get t with
    | some ⟨.map _ _, _, _, _⟩ => some ⟨[], .mp nid, [(nid, .emap)], none⟩
    | _ => none
  | .lookup t x ix ok => match T.get t, ev ch s x with
    | some ⟨.map k e, _, _, _⟩, .mp o => match nth .free s.heap o, T.get k, T.get e with
      | .emap, some ki, some ei => bif keyOk ki.k then some ⟨[], (match ok with | true => .tup [ei.zero, .bool false] | false => ei.zero), [], none⟩ else none
      | _, _, _ => none
    | _, _ => none
  | .mapUpdate t m k x => match T.get t, ev ch s m with
    | some ⟨.map kt _, _, _, _⟩, .mp o => match nth .free s.heap o, T.get kt with
      | .emap, some ki => bif keyOk ki.k then some ⟨[], .top, [(o, .xmap)], none⟩ else none
      | _, _ => none
    | _, _ => none
  | .index t x ix => match T.get t, ev ch s x, intOf? (ev ch s ix) with
    | some ⟨.str, _, _, _⟩, .str b, some (_, q) => some ⟨[0 ≤ q ∧ q < b.size], .int .u8 (byteAt b q.toNat), [], none⟩
    | _, _, _ => none
  | .slice t x lo hi none => match T.get t, ev ch s x with
    | some ⟨.str, _, _, _⟩, .str b => match boundOf (hi.map (ev ch s)) b.size, boundOf (lo.map (ev ch s)) 0 with
      | some (hb, h), some (lb, l) => some ⟨[loOk hb b.size, loOk lb h], .str (b.extract l h), [], none⟩
      | _, _ => none
    | _, _ => none
  | .convert src dst x => match T.get src, T.get dst, ev ch s x with
    | some ⟨.str, _, _, _⟩, some ⟨.str, _, _, _⟩, .str b => some ⟨[], .str b, [], none⟩
    | some ⟨.str, _, _, _⟩, some ⟨.slice e, _, _, _⟩, .str b => match T.get e with
      | some ⟨.int .u8, _, _, _⟩ => some ⟨[], .ro 1 b.size none fun i => [.int .u8 (byteAt b i)], [], none⟩
      | _ => none
    | _, _, _ => none
  | .typeAssert x t u ok => match T.get u with
    | some ui => match ui.k with
      | .iface => none
      | _ => match ev ch s x, ok with
        | .iface t' v, true => bif Nat.beq t' u then some ⟨[], .tup [v, .bool true], [], none⟩ else some ⟨[], .tup [ui.zero, .bool false], [], none⟩
        | .iface t' v, false => bif Nat.beq t' u then some ⟨[], v, [], none⟩ else none
        | .nilif, true => some ⟨[], .tup [ui.zero, .bool false], [], none⟩
        | _, _ => none
    | none => none
  | _ => none
def touch0 : AV → List Nat
  | .ptr o .. => [o]
  | .sl o .. => [o]
  | .mp o => [o]
  | _ => []
def touch : AV → List Nat
  | .agg cs => cs.flatMap touch0
  | v => touch0 v
/-- What a function does that writes to one object of a memory of so many. -/
structure SS where
  N : Nat
  o : Nat
  w : Bool
  run : List AV → AO → List AO → Option (List Prop × AV × AO)
abbrev SEnv := List (FuncId × SS)
def SEnv.get : SEnv → FuncId → Option SS
  | [], _ => none
  | (g, q) :: r, f => bif g == f then some q else SEnv.get r f
structure XE where
  l : List Nat
  S : SEnv
/-- The objects that a function looks at, beyond those that its arguments lead to. -/
def exR (f : FuncId) : List Nat := bif Nat.beq f 27 then [0, 1, 2, 3, 4, 5] else []
/-- Functions that copy a map without entries. -/
def mkF : List Nat := [85, 86]
def core3 (S : SEnv) (op : Op) (ch : List (Nat × Bool)) (s : AState) (nid : Nat) : Option Out :=
  match op with
  | .call c => match c.callee with
    | .value (.func f) => match S.get f with
      | some ⟨N, o, w, run⟩ => bif Nat.beq N 0 then (match run (c.args.toList.map (ev ch s)) .free [] with
        | some (ob, r, x) => some ⟨ob, r, [], none⟩
        | none => none) else bif Nat.beq s.heap.length N && (Nat.blt o N && ((c.args.toList.map (ev ch s)).flatMap touch).elem o) then (match run (c.args.toList.map (ev ch s)) (nth .free s.heap o) ((exR f).map fun q => nth .free s.heap q) with
        | some (ob, r, x) => some ⟨ob, r, (match w with | true => [(o, x)] | false => []), none⟩
        | none => none) else none
      | none => bif mkF.elem f then (match c.args.toList.map (ev ch s) with
        | [.mp k] => match nth .free s.heap k with
          | .emap => some ⟨[], .mp nid, [(nid, .emap)], none⟩
          | _ => none
        | _ => none) else none
    | _ => none
  | _ => none
def core (G : Env) (T : Tab) (eqs : XE) (base : Nat) (op : Op) (ch : List (Nat × Bool)) (s : AState) (nid : Nat) : Option Out :=
  match core1 G T eqs.l base op ch s nid with
  | some r => some r
  | none => match core2 T op ch s nid with
    | some r => some r
    | none => core3 eqs.S op ch s nid

/-- How a call ends. -/
inductive AR where
  | ret (v : AV)
  | pan (v : AV)
/-- Calls that the environment does not tell: what they must come to. -/
abbrev CallP := FuncId → List AV → List AO → (AR → List AO → Prop) → Prop

/-- What leads to objects from n on falls away. -/
def below0 (n : Nat) : AV → AV
  | .cint k n => .int k n
  | .ptr o N s i j => bif Nat.blt o n then .ptr o N s i j else .top
  | .sl o s off len cap => bif Nat.blt o n then .sl o s off len cap else .top
  | .mp o => bif Nat.blt o n then .mp o else .top
  | .fn f [] [] => .fn f [] []
  | .fn .. | .iface .. | .agg _ | .tup _ | .when .. => .top
  | v => v
def below1 (n : Nat) : AV → AV
  | .agg cs => .agg (cs.map (below0 n))
  | v => below0 n v
def below2 (n : Nat) : AV → AV
  | .tup vs => .tup (vs.map (below1 n))
  | .fn f a b => .fn f (a.map (below1 n)) (b.map (below1 n))
  | .iface t v => .iface t (below1 n v)
  | v => below1 n v
def belowO (n : Nat) : AO → AO
  | .lit s cs => .lit s (cs.map (below1 n))
  | .rows s m row => .rows s m fun i => (row i).map (below0 n)
  | x => x
def keepT (live : List Nat) (n : Nat) : Nat → List AV → List AV
  | _, [] => []
  | i, v :: vs => (bif live.elem i then below2 n v else .top) :: keepT live n (i + 1) vs
/-- At a loop's head: the slots that matter, the first n objects. -/
def keep (live : List Nat) (n : Nat) (s : AState) : AState := ⟨keepT live n 0 s.tmps, (s.heap.take n).map (belowO n)⟩
/-- A nil slice in a slot becomes an empty row of its own. -/
def grow : List (Nat × Nat) → AState → AState
  | [], s => s
  | (t, z) :: r, s => match getTmp s t with
    | .nilsl => grow r ⟨setNth s.tmps t (.sl s.heap.length z 0 0 none), s.heap ++ [.rows z 0 fun _ => []]⟩
    | _ => grow r s
def OEq : AO → AO → Prop
  | .rows s n row, .rows s' n' row' => s = s' ∧ n = n' ∧ ∀ i, i < n → row i = row' i
  | x, y => x = y
/-- The same, but for what lies beyond a row's end. -/
def SEq (s s' : AState) : Prop := s.tmps = s'.tmps ∧ s.heap.length = s'.heap.length ∧ ∀ o, o < s.heap.length → OEq (nth .free s.heap o) (nth .free s'.heap o)

def AV.unguard : AV → AV
  | .when .. => .top
  | v => v
/-- Memory behind an operation. -/
def apply : List (Nat × AO) → List AO → List AO
  | [], h => h
  | p :: r, h => apply r (bif Nat.blt p.1 h.length then setNth h p.1 p.2 else h ++ [p.2])

structure Cfg where
  G : Env
  T : Tab
  eqs : XE
  C : CallP
  base : Nat

/-! What follows changes nothing: it makes the evaluation put values into their plain form. -/
section
variable {R : Sort _}
def fNatIn : List Nat → Nat → (Nat → R) → R
  | [], n, k => k n
  | j :: js, n, k => match Nat.beq n j with
    | true => k j
    | false => fNatIn js n k
def fNat (n : Nat) (k : Nat → R) : R := fNatIn [0, 1, 2, 3, 4, 5, 6, 7, 8, 9, 10, 11, 12, 13, 14, 15, 16, 17, 18, 19, 20, 21, 22, 23, 24, 25, 26, 27, 28, 29, 30, 31, 32, 33, 34, 35, 36, 37, 38, 39, 40, 41, 42, 43, 44, 45, 46, 47, 48, 49, 50, 51, 52, 53, 54, 55, 56, 57, 58, 59, 60, 61, 62, 63, 64, 65, 66, 67, 68, 69, 70, 71, 72, 73, 74, 75, 76, 77, 78, 79, 80, 81, 82, 83, 84, 85, 86, 87, 88, 89, 90, 91, 92, 93, 94, 95, 96, 97, 98, 99, 100, 101, 102, 103, 104, 105, 106, 107, 108, 109, 110, 111, 112, 113, 114, 115, 116, 117, 118, 119, 120, 121, 122, 123, 124, 125, 126, 127, 128, 129] n k
def f0 (v : AV) (k : AV → R) : R :=
  match v with
  | .top => k .top
  | .cint a n => k (.cint a n)
  | .int a n => k (.int a n)
  | .bool b => k (.bool b)
  | .str s => k (.str s)
  | .nilp => k .nilp
  | .nilsl => k .nilsl
  | .nilfn => k .nilfn
  | .nilmp => k .nilmp
  | .nilif => k .nilif
  | .ptr o N s i j => fNat o fun o => fNat N fun N => fNat s fun s => fNat j fun j => k (.ptr o N s i j)
  | .rp s row i j => fNat s fun s => fNat j fun j => k (.rp s row i j)
  | .sl o s off len cap => fNat o fun o => fNat s fun s => match cap with
    | none => k (.sl o s off len none)
    | some c => k (.sl o s off len (some c))
  | .ro s len cap row => fNat s fun s => match cap with
    | none => k (.ro s len none row)
    | some c => k (.ro s len (some c) row)
  | .fn f a b => k (.fn f a b)
  | .iface t v => k (.iface t v)
  | .agg cs => k (.agg cs)
  | .tup vs => k (.tup vs)
  | .when d b v => k (.when d b v)
  | .mp o => fNat o fun o => k (.mp o)
def fL (f : AV → (AV → R) → R) : List AV → (List AV → R) → R
  | [], k => k []
  | v :: vs, k => f v fun v => fL f vs fun vs => k (v :: vs)
def f1 (v : AV) (k : AV → R) : R :=
  match v with
  | .agg cs => fL f0 cs fun cs => k (.agg cs)
  | v => f0 v k
def f2 (v : AV) (k : AV → R) : R :=
  match v with
  | .agg cs => fL f0 cs fun cs => k (.agg cs)
  | .tup vs => fL f1 vs fun vs => k (.tup vs)
  | .fn f a b => fL f1 a fun a => fL f1 b fun b => k (.fn f a b)
  | .iface t v => f1 v fun v => k (.iface t v)
  | v => f0 v k
def f3 (v : AV) (k : AV → R) : R :=
  match v with
  | .when d b v => fNat d fun d => f2 v fun v => k (.when d b v)
  | v => f2 v k
def fO (o : AO) (k : AO → R) : R :=
  match o with
  | .free => k .free
  | .dead => k .dead
  | .lit s cs => fNat s fun s => fL f1 cs fun cs => k (.lit s cs)
  | .rows s n row => fNat s fun s => k (.rows s n row)
  | .emap => k .emap
  | .xmap => k .xmap
def fH : List AO → (List AO → R) → R
  | [], k => k []
  | o :: os, k => fO o fun o => fH os fun os => k (o :: os)
def fU1 (v : AV) (k : AV → R) : R := match v with
  | .when _ _ _ => k .top
  | v => k v
def fPu (t : Nat) (v : AV) (k : AV → R) : R := match v with
  | .when d b y => (match Nat.beq d t with
    | true => k .top
    | false => k (.when d b y))
  | v => k v
def fPt (t : Nat) (w : AV) : Nat → List AV → (List AV → R) → R
  | _, [], k => k []
  | 0, _ :: xs, k => fL (fPu t) xs fun xs => k (w :: xs)
  | n + 1, x :: xs, k => fPu t x fun x => fPt t w n xs fun xs => k (x :: xs)
def fP (ts : List AV) (h : List AO) (d : Option Nat) (v : AV) (k : List AV → R) : R := match d with
  | some t => fPu t v fun w => fPt t w t ts k
  | none => k ts
def fSet : Nat → AO → List AO → (List AO → R) → R
  | _, x, [], k => k [x]
  | 0, x, _ :: h, k => k (x :: h)
  | n + 1, x, y :: h, k => fSet n x h fun h => k (y :: h)
def fA : List (Nat × AO) → List AO → (List AO → R) → R
  | [], h, k => k h
  | p :: r, h, k => fO p.2 fun x => fSet p.1 x h fun h => fA r h k
end

def wrapG (g : Option (Nat × Bool)) (v : AV) : AV :=
  match g with
  | some (d, w) => .when d w v
  | none => v

def isCall (c : Cfg) (s : AState) : Op → Option (FuncId × List AV)
  | .call k => match k.callee with
    | .value f => match ev [] s f with
      | .fn g first caps => match c.G.get g with
        | none => some (g, first ++ k.args.toList.map (ev [] s) ++ caps)
        | some _ => none
      | _ => none
    | _ => none
  | _ => none

/-- The slot that an operation's guard asks, and what it wants there; none: that cannot be told. -/
def guardSlot (all : List Oper) (o : Oper) : Option (Option (Nat × Bool)) :=
  match o.guard with
  | none => some none
  | some (g, w) => match all[g]? with
    | some og => match og.dst with
      | some d => some (some (d, w))
      | none => none
    | none => none

def conj : List Prop → Prop
  | [] => True
  | [p] => p
  | p :: q :: r => p ∧ conj (q :: r)
def need : List Prop → Prop → Prop
  | [], q => q
  | p :: r, q => conj (p :: r) ∧ q
/-- A slice that is held against nil: how long it is. -/
def nilCmp (T : Tab) (s : AState) (op : Op) : Option Nat :=
  match op with
  | .binOp .eql t x y _ => match T.get t, ev [] s x, ev [] s y with
    | some ⟨.slice _, _, _, _⟩, .ro st len _ _, .nilsl => bif Nat.blt 0 st then some len else bif Nat.beq len 0 then some len else none
    | some ⟨.slice _, _, _, _⟩, .sl _ _ _ len _, .nilsl => some len
    | _, _, _ => none
  | _ => none
/-- A test that is told, or is to be split. -/
def bcond (v : Bool) (p q : Prop) : Prop := @Bool.rec (fun _ => Prop) q p v
/-- A call under a guard. -/
def isCallG (c : Cfg) (ch : List (Nat × Bool)) (s : AState) : Op → Option (FuncId × List AV)
  | .call k => match k.callee with
    | .value f => match ev ch s f with
      | .fn g first caps => match c.G.get g with
        | none => some (g, first ++ k.args.toList.map (ev ch s) ++ caps)
        | some _ => none
      | _ => none
    | _ => none
  | _ => none
/-- Does the guard hold? -/
def gval (s : AState) : Nat → Nat → Bool → Option Bool
  | 0, _, _ => none
  | n + 1, d, w => match getTmp s d with
    | .bool b => some (b == w)
    | .when d' w' (.bool b) => match gval s n d' w' with
      | some x => some (x && (b == w))
      | none => none
    | _ => none
/-- What is thrown. -/
def panOf (s : AState) (op : Op) : Option AV :=
  match op with
  | .panic x => match ev [] s x with
    | .iface t v => some (.iface t v)
    | _ => none
  | _ => none
/-- One after the other. -/
def runOps (c : Cfg) (KP : AV → AState → Prop) (all : List Oper) : List Oper → List Prop → List AV → List AO → (AState → Prop) → Prop
  | [], obs, ts, h, K => need obs (fL fU1 ts fun ts => K ⟨ts, h⟩)
  | o :: os, obs, ts, h, K =>
    match guardSlot all o with
    | some none => match panOf ⟨ts, h⟩ o.op with
     | some v => need obs (f2 v fun v => KP v ⟨ts, h⟩)
     | none => match nilCmp c.T ⟨ts, h⟩ o.op with
     | some len => need obs ((len = 0 → f3 (.bool true) fun val => fP ts h o.dst val fun ts => runOps c KP all os [] ts h K) ∧ (f3 (.bool false) fun val => fP ts h o.dst val fun ts => runOps c KP all os [] ts h K))
     | none => match isCall c ⟨ts, h⟩ o.op with
      | some (f, vs) => need obs (fL f2 vs fun vs => c.C f vs h fun r h => match r with
        | .ret r => f3 r fun r => fP ts h o.dst r fun ts => runOps c KP all os [] ts h K
        | .pan v => f2 v fun v => KP v ⟨ts, h⟩)
      | none => match core c.G c.T c.eqs c.base o.op [] ⟨ts, h⟩ h.length with
        | some ⟨ob, val, upd, some k⟩ => need (obs ++ ob) (f3 val fun val => fL f3 ((AState.put ⟨ts.map (kill2 k), []⟩ o.dst val).tmps) fun ts => fA upd (h.map (killO k)) fun h => runOps c KP all os [] ts h K)
        | some ⟨ob, val, upd, none⟩ => match ob with
          | [] => f3 val fun val => fP ts h o.dst val fun ts => match upd with
            | [] => runOps c KP all os obs ts h K
            | p :: r => fA (p :: r) h fun h => runOps c KP all os obs ts h K
          | p :: ps => f3 val fun val => fP ts h o.dst val fun ts => match upd with
            | [] => runOps c KP all os (obs ++ p :: ps) ts h K
            | q :: r => fA (q :: r) h fun h => runOps c KP all os (obs ++ p :: ps) ts h K
        | none => False
    | some (some (d, w)) => match isCallG c (chain ⟨ts, h⟩ 8 d w) ⟨ts, h⟩ o.op with
     | some (f, vs) => match gval ⟨ts, h⟩ 8 d w with
      | some x => bcond x (need obs (fL f2 vs fun vs => c.C f vs h fun r h => match r with
        | .ret r => f3 (.when d w r) fun r => fP ts h o.dst r fun ts => runOps c KP all os [] ts h K
        | .pan v => f2 v fun v => KP v ⟨ts, h⟩))
          (f3 (.when d w .top) fun val => fP ts h o.dst val fun ts => runOps c KP all os obs ts h K)
      | none => False
     | none =>
      match core c.G c.T c.eqs c.base o.op (chain ⟨ts, h⟩ 8 d w) ⟨ts, h⟩ h.length with
      | some ⟨ob, val, [], none⟩ => match ob with
        | [] => f3 (.when d w val) fun val => fP ts h o.dst val fun ts => runOps c KP all os obs ts h K
        | p :: ps => chainCond ⟨ts, h⟩ (chain ⟨ts, h⟩ 8 d w) (conj (p :: ps)) fun q => f3 (.when d w val) fun val => fP ts h o.dst val fun ts => runOps c KP all os (obs ++ [q]) ts h K
      | some ⟨ob, val, p :: r, none⟩ => match gval ⟨ts, h⟩ 8 d w with
        | some x => bcond x (need (obs ++ ob) (f3 (.when d w val) fun val => fP ts h o.dst val fun ts => fA (p :: r) h fun h => runOps c KP all os [] ts h K))
          (f3 (.when d w .top) fun val => fP ts h o.dst val fun ts => runOps c KP all os obs ts h K)
        | none => False
      | _ => match gval ⟨ts, h⟩ 8 d w with
        | some x => x = false ∧ f3 (.when d w .top) fun val => fP ts h o.dst val fun ts => runOps c KP all os obs ts h K
        | none => False
    | none => False

/-! ### Regions that draw their order -/
def tmpsOf (op : Op) : List Nat := op.operands.toList.filterMap fun x => match x with | .tmp t => some t | _ => none
/-- The slots of the guards that an operation stands under. -/
def gslots (all : List Oper) : Nat → Oper → List Nat
  | 0, _ => []
  | n + 1, o => match o.guard with
    | none => []
    | some (j, _) => match all[j]? with
      | some og => match og.dst with
        | some d => d :: gslots all n og
        | none => []
      | none => []
def usesOf (all : List Oper) (o : Oper) : List Nat := tmpsOf o.op ++ gslots all 8 o
/-- 0: values alone; 1: it looks at memory; 2: it writes there. -/
def memClass : Op → Nat
  | .move _ | .assign _ | .pick .. | .build .. | .field .. | .fieldAddr .. | .extract .. | .binOp .. | .unOp .. | .convert .. | .makeFunc .. | .makeInterface .. | .nilCheck _ | .index .. | .typeAssert .. => 0
  | .lookup .. | .load .. | .indexAddr .. | .slice .. => 1
  | .call c => match c.callee with
    | .value (.func g) => bif [85, 86, 185, 287].elem g then 2 else 1
    | .value _ => 1
    | .builtin .append | .builtin .clear => 2
    | .builtin _ => 0
    | _ => 2
  | _ => 2
def beforeOf (after : List Edge) (acc : List (List Nat)) : List Nat :=
  after.flatMap fun e => if Region.binds .any e then e.on :: (acc.getD e.on []) else []
def befores : List Oper → List (List Nat) → List (List Nat)
  | [], acc => acc
  | o :: os, acc => befores os (acc ++ [beforeOf o.after.toList acc])
def dstIn (d : Option Nat) (l : List Nat) : Bool := match d with | some t => l.elem t | none => false
/-- Two operations that may come in either order do not meet. -/
def apartOps (all : List Oper) (flags : List (Nat × Nat)) (i j : Nat) (oi oj : Oper) : Bool :=
  !dstIn oi.dst (usesOf all oj) && !dstIn oj.dst (usesOf all oi) && (match oi.dst with | some t => !(oj.dst == some t) | none => true) &&
    (memClass oi.op == 0 || memClass oj.op == 0 || (memClass oi.op == 1 && memClass oj.op == 1) || flags.elem (i, j))
/-! The same on masks of bits, for the kernel's quick numbers. -/
def maskOf : List Nat → Nat
  | [] => 0
  | x :: r => Nat.lor (Nat.shiftLeft 1 x) (maskOf r)
def hasBit (m x : Nat) : Bool := !Nat.beq (Nat.land 1 (Nat.shiftRight m x)) 0
def fBig {R : Sort _} (n : Nat) (k : Nat → R) : R := match n with
  | 0 => k 0
  | m + 1 => k (m + 1)
def fApp {α : Type} {R : Sort _} : List α → α → (List α → R) → R
  | [], x, k => k [x]
  | y :: r, x, k => fApp r x fun r => k (y :: r)
def befMask : List Edge → List Nat → Nat
  | [], acc => 0
  | e :: r, acc => bif Region.binds .any e then Nat.lor (Nat.lor (Nat.shiftLeft 1 e.on) (nth 0 acc e.on)) (befMask r acc) else befMask r acc
def befMasks : List Oper → List Nat → (List Nat → Bool) → Bool
  | [], acc, k => k acc
  | o :: os, acc, k => fBig (befMask o.after.toList acc) fun m => fApp acc m fun acc => befMasks os acc k
structure SI where
  d : Nat
  u : Nat
  g : Nat
  c : Nat
def siMasks (all : List Oper) : List Oper → (List SI → Bool) → Bool
  | [], k => k []
  | o :: os, k => fBig (maskOf o.dst.toList) fun d => fBig (maskOf (gslots all 8 o)) fun g => fBig (Nat.lor (maskOf (tmpsOf o.op)) g) fun u => fBig (memClass o.op) fun c => siMasks all os fun r => k (⟨d, u, g, c⟩ :: r)
def apart3 (flags : List (Nat × Nat)) (i j : Nat) (si sj : SI) : Bool :=
  Nat.beq (Nat.land si.d sj.u) 0 && (Nat.beq (Nat.land sj.d si.u) 0 && (Nat.beq (Nat.land si.d sj.d) 0 &&
    (Nat.beq si.c 0 || (Nat.beq sj.c 0 || ((Nat.beq si.c 1 && Nat.beq sj.c 1) || flags.elem (i, j))))))
def rowOk (flags : List (Nat × Nat)) (sj : SI) (b j : Nat) : List SI → Nat → Bool
  | [], i => true
  | si :: r, i => bif Nat.blt i j then (hasBit b i || apart3 flags i j si sj) && rowOk flags sj b j r (i + 1) else Nat.beq (Nat.land si.d sj.g) 0 && rowOk flags sj b j r (i + 1)
def rowsOk (flags : List (Nat × Nat)) (all : List SI) : List SI → List Nat → Nat → Bool
  | [], _, _ => true
  | sj :: r, b :: bs, j => rowOk flags sj b j all 0 && rowsOk flags all r bs (j + 1)
  | _ :: _, [], _ => false
def edgeRows : List Oper → Nat → Bool
  | [], _ => true
  | o :: r, j => o.after.toList.all (fun e => !Region.binds .any e || Nat.blt e.on j) && edgeRows r (j + 1)
def staticFast (ops : Array Oper) (flags : List (Nat × Nat)) : Bool := edgeRows ops.toList 0 && befMasks ops.toList [] fun bs => siMasks ops.toList ops.toList fun sis => rowsOk flags sis sis bs 0
/-- The objects that an operation looks at. -/
def heapReads (ch : List (Nat × Bool)) (s : AState) : Op → List Nat
  | .load _ x | .store _ x _ | .indexAddr _ x _ | .slice _ x _ _ _ | .lookup _ x _ _ | .mapUpdate _ x _ _ => touch0 (ev ch s x)
  | .call c => match c.callee with
    | .value f => match ev ch s f with
      | .fn g first caps => exR g ++ (first ++ c.args.toList.map (ev ch s) ++ caps).flatMap touch
      | _ => []
    | .builtin .append | .builtin .clear => (c.args.toList.map (ev ch s)).flatMap touch
    | _ => []
  | _ => []
def isAlloc : Op → Bool
  | .alloc _ | .box .. | .buildSlice .. | .makeSlice .. | .makeMap .. => true
  | .call c => match c.callee with | .builtin .append => true | .value (.func g) => mkF.elem g | _ => false
  | _ => false
def nextId (op : Op) (nid : Nat) : Nat := bif isAlloc op then nid + 1 else nid
def fNs {R : Sort _} : List Nat → (List Nat → R) → R
  | [], k => k []
  | n :: r, k => fNat n fun n => fNs r fun r => k (n :: r)
abbrev Foots := List (Nat × List Nat × List Nat)
def footOf : Foots → Nat → Option (List Nat × List Nat)
  | [], _ => none
  | (i, x) :: r, j => bif Nat.beq i j then some x else footOf r j
def disj (a b : List Nat) : Bool := a.all fun x => !b.elem x
def flagsOk (fs : Foots) (flags : List (Nat × Nat)) : Bool := flags.all fun p => match footOf fs p.1, footOf fs p.2 with
  | some (r1, w1), some (r2, w2) => disj w1 (r2 ++ w2) && disj w2 r1
  | _, _ => false
/-- The object that an operation makes is not there yet. -/
def freeAt (op : Op) (h : List AO) (nid : Nat) : Bool := !isAlloc op || (Nat.blt nid h.length && (match nth .free h nid with | .free => true | _ => false))
def idOf (op : Op) (nid : Nat) : List Nat := bif isAlloc op then [nid] else []
/-- What an operation does to memory is of its class. -/
def classOk (op : Op) (rs : List Nat) (upd : List (Nat × AO)) : Bool := (Nat.beq (memClass op) 2 || upd.isEmpty) && (!(Nat.beq (memClass op) 0) || rs.isEmpty)
/-- In the text's order; what is needed for every other order is looked at. -/
def runDraw (c : Cfg) (all : List Oper) (flags : List (Nat × Nat)) : List Oper → Nat → Nat → List Prop → Foots → List AV → List AO → (AState → Prop) → Prop
  | [], i, nid, obs, fs, ts, h, K => need obs (flagsOk fs flags = true ∧ fL fU1 ts fun ts => K ⟨ts, h⟩)
  | o :: os, i, nid, obs, fs, ts, h, K =>
    match guardSlot all o with
    | some none => match core c.G c.T c.eqs c.base o.op [] ⟨ts, h⟩ nid with
      | some ⟨ob, val, upd, none⟩ => bif freeAt o.op h nid && (upd.all (fun p => Nat.blt p.1 h.length) && classOk o.op (idOf o.op nid ++ heapReads [] ⟨ts, h⟩ o.op) upd) then
          fNs (idOf o.op nid ++ heapReads [] ⟨ts, h⟩ o.op) fun rs => f3 val.unguard fun val => fP ts h o.dst val fun ts => fA upd h fun h => match ob with
          | [] => runDraw c all flags os (i + 1) (nextId o.op nid) obs (fs ++ [(i, rs, upd.map Prod.fst)]) ts h K
          | p :: ps => runDraw c all flags os (i + 1) (nextId o.op nid) (obs ++ p :: ps) (fs ++ [(i, rs, upd.map Prod.fst)]) ts h K
        else False
      | _ => False
    | some (some (d, w)) => bif (chain ⟨ts, h⟩ 8 d w).all (fun p => (gslots all 8 o).elem p.1) && (!isAlloc o.op && classOk o.op (heapReads (chain ⟨ts, h⟩ 8 d w) ⟨ts, h⟩ o.op) []) then
      match core c.G c.T c.eqs c.base o.op (chain ⟨ts, h⟩ 8 d w) ⟨ts, h⟩ nid with
      | some ⟨ob, val, [], none⟩ => fNs (heapReads (chain ⟨ts, h⟩ 8 d w) ⟨ts, h⟩ o.op) fun rs => chainCond ⟨ts, h⟩ (chain ⟨ts, h⟩ 8 d w) (conj ob) fun q => f3 (.when d w val) fun val => fP ts h o.dst val fun ts => match ob with
        | [] => runDraw c all flags os (i + 1) nid obs (fs ++ [(i, rs, [])]) ts h K
        | _ :: _ => runDraw c all flags os (i + 1) nid (obs ++ [q]) (fs ++ [(i, rs, [])]) ts h K
      | _ => False
      else False
    | none => False
/-- The same, where nothing needs to be said of two that meet in memory. -/
def runDraw0 (c : Cfg) (all : List Oper) : List Oper → Nat → List Prop → List AV → List AO → (AState → Prop) → Prop
  | [], nid, obs, ts, h, K => need obs (fL fU1 ts fun ts => K ⟨ts, h⟩)
  | o :: os, nid, obs, ts, h, K =>
    match guardSlot all o with
    | some none => match core c.G c.T c.eqs c.base o.op [] ⟨ts, h⟩ nid with
      | some ⟨ob, val, upd, none⟩ => bif freeAt o.op h nid && (upd.all (fun p => Nat.blt p.1 h.length) && classOk o.op (idOf o.op nid ++ heapReads [] ⟨ts, h⟩ o.op) upd) then
          f3 val.unguard fun val => fP ts h o.dst val fun ts => fA upd h fun h => fNat (nextId o.op nid) fun nid => match ob with
          | [] => runDraw0 c all os nid obs ts h K
          | p :: ps => runDraw0 c all os nid (obs ++ p :: ps) ts h K
        else False
      | _ => False
    | some (some (d, w)) => bif (chain ⟨ts, h⟩ 8 d w).all (fun p => (gslots all 8 o).elem p.1) && (!isAlloc o.op && classOk o.op (heapReads (chain ⟨ts, h⟩ 8 d w) ⟨ts, h⟩ o.op) []) then
      match core c.G c.T c.eqs c.base o.op (chain ⟨ts, h⟩ 8 d w) ⟨ts, h⟩ nid with
      | some ⟨ob, val, [], none⟩ => match ob with
        | [] => f3 (.when d w val) fun val => fP ts h o.dst val fun ts => runDraw0 c all os nid obs ts h K
        | p :: ps => chainCond ⟨ts, h⟩ (chain ⟨ts, h⟩ 8 d w) (conj (p :: ps)) fun q => f3 (.when d w val) fun val => fP ts h o.dst val fun ts => runDraw0 c all os nid (obs ++ [q]) ts h K
      | _ => False
      else False
    | none => False
def allocs (ops : List Oper) : Nat := (ops.filter fun o => isAlloc o.op).length

inductive EX where
  | normal | exit (id : Nat) | ret | panic (v : AV)
/-- A loop's rounds, one after the other. -/
def unroll (f : (EX → AState → Prop) → AState → Prop) : List Unit → (EX → AState → Prop) → AState → Prop
  | [], _, _ => False
  | _ :: n, K, s => f (fun e s' => match e with | .normal => unroll f n K s' | e => K e s') s

def awp (c : Cfg) : Code → (EX → AState → Prop) → AState → Prop
  | .skip, K, s => K .normal s
  | .label _, K, s => K .normal s
  | .region _ ops d, K, s => match s with
    | ⟨ts, h⟩ => match d with
      | false => runOps c (fun v s' => K (.panic v) s') ops.toList ops.toList [] ts h fun s' => K .normal s'
      | true => ∃ flags, staticFast ops flags = true ∧ fL fU1 ts fun ts => match flags with
        | [] => runDraw0 c ops.toList ops.toList h.length [] ts (h ++ List.replicate (allocs ops.toList) .free) fun s' => K .normal s'
        | p :: r => runDraw c ops.toList (p :: r) ops.toList 0 h.length [] [] ts (h ++ List.replicate (allocs ops.toList) .free) fun s' => K .normal s'
  | .seq a b, K, s => awp c a (fun e s' => match e with | .normal => awp c b K s' | e => K e s') s
  | .cond x a b, K, s => match ev [] s x with
    | .bool v => bcond v (awp c a K s) (awp c b K s)
    | _ => False
  | .block id b, K, s => awp c b (fun e s' => match e with | .exit i => bif i == id then K .normal s' else K (.exit i) s' | e => K e s') s
  | .loop b, K, s => (∃ n : List Unit, unroll (awp c b) n K s) ∨ ∃ (nils : List (Nat × Nat)) (live : List Nat) (n : Nat) (I : Nat → AState → Prop), c.base ≤ n ∧ (∃ m s', SEq (keep live n (grow nils s)) s' ∧ I m s') ∧
      ∀ m s', I m s' → awp c b (fun e s'' => match e with | .normal => ∃ m' s₃, m' < m ∧ SEq (keep live n s'') s₃ ∧ I m' s₃ | e => K e s'') s'
  | .exit id, K, s => K (.exit id) s
  | .ret, K, s => K .ret s
  | _, _, _ => False
def retOne (T : Tab) (s : AState) : ResultVar → Option AV
  | .tmp t => some (ev [] s (.tmp t))
  | .cell a t => match T.get t with
    | some i => bif Nat.beq i.size 0 then none else match rd (fun o => nth .free s.heap o) (ev [] s (.tmp a)) i.size with
      | some ([], cs) => some (pack i.agg cs)
      | _ => none
    | none => none
def retAll (T : Tab) (s : AState) : List ResultVar → Option (List AV)
  | [] => some []
  | r :: rs => match retOne T s r, retAll T s rs with
    | some v, some vs => some (v :: vs)
    | _, _ => none
def retVal (T : Tab) (fn : Func) (s : AState) : Option AV :=
  match retAll T s fn.results.toList with
  | some [v] => some v
  | some vs => some (.tup vs)
  | none => none
/-- A function's text, from its entry on. -/
def afn (c : Cfg) (fn : Func) (args : List AV) (h : List AO) (K : AR → List AO → Prop) : Prop :=
  match fn.body with
  | some b => fL f2 (args ++ List.replicate (fn.ntmps - args.length) .top) fun ts => awp c b (fun e s => match e with
    | .exit _ => False
    | .panic v => K (.pan v) s.heap
    | _ => match retVal c.T fn s with
      | some r => K (.ret r) s.heap
      | none => False) ⟨ts, h⟩
  | none => False
end Go.Proofs.YtnnoplgabnfdiaaGreatDoor.Sh
