/- A pure evaluator for slim Go code: values, memory by place, operations, code; its limit over all rounds. -/
import Derived.Calls
import Derived.Lib.Bytealg
import Derived.Orders
import Derived.WalkKit
set_option linter.all false
namespace Go.Ev

/-- What one cell holds: a scalar; a row of the call's own (cells of one element's size); a slice that is only read; something not known. -/
inductive D where
  | v (x : Value)
  | s (sz : Nat) (els : List (List D))
  | r (els : List (List D))
  | u

abbrev Id := Nat × Nat
abbrev Path := List (Nat × Nat)

/-- What a temporary holds: a cell's value; a struct; a tuple; a slice of the call's own, by its place; the address of a cell of the call's own; an address of cells that are only read; one of cells that hold such values, only read; a function with what it captured. -/
inductive X where
  | d (x : D)
  | agg (cs : List X)
  | tup (cs : List X)
  | ref (id : Id) (p : Path)
  | ptr (id : Id) (q : Path) (j i : Nat)
  | rop (cs : List D)
  | vp (cs : List X)
  | clo (f : Nat) (caps : List X)

def upd {κ α : Type} [DecidableEq κ] (f : κ → Option α) (k : κ) (x : Option α) : κ → Option α := fun j => if j = k then x else f j
def emp {κ α : Type} : κ → Option α := fun _ => none
theorem upd_apply {κ α : Type} [DecidableEq κ] (f : κ → Option α) (k : κ) (x : Option α) (j : κ) : upd f k x j = if j = k then x else f j := rfl
theorem emp_apply {κ α : Type} (j : κ) : (emp : κ → Option α) j = none := rfl

abbrev Env := Nat → Option X
abbrev Heap := Id → Option D

structure St where
  env : Env
  heap : Heap
  fr : Nat
  next : Nat

def D.nav : D → Path → Option D
  | d, [] => some d
  | d, (j, i) :: p => match d with
    | .s _ els => (els[j]?).bind fun el => (el[i]?).bind fun c => c.nav p
    | _ => none

def D.put : D → Path → D → Option D
  | _, [], x => some x
  | d, (j, i) :: p, x => match d with
    | .s sz els => (els[j]?).bind fun el => (el[i]?).bind fun c => (c.put p x).map fun c' => .s sz (els.set j (el.set i c'))
    | _ => none

def Heap.nav (h : Heap) (id : Id) (p : Path) : Option D := (h id).bind fun d => d.nav p
def D.rowOf : D → Option (Nat × List (List D))
  | .s sz els => some (sz, els)
  | _ => none
def Heap.row (h : Heap) (id : Id) (p : Path) : Option (Nat × List (List D)) := (h.nav id p).bind D.rowOf
def Heap.put (h : Heap) (id : Id) (p : Path) (x : D) : Option Heap := (h id).bind fun d => (d.put p x).map fun d' => upd h id (some d')

/-- A row moves out of its place. -/
def Heap.take (h : Heap) (id : Id) : Path → Option (D × Heap)
  | [] => (h.row id []).map fun r => (.s r.1 r.2, upd h id none)
  | c :: p => (h.row id (c :: p)).bind fun r => (h.put id (c :: p) .u).map fun h' => (.s r.1 r.2, h')

/-- A one-cell value moves into memory (or out of the call). -/
def takeX (h : Heap) : X → Option (D × Heap)
  | .d (.v x) => some (.v x, h)
  | .d (.r e) => some (.r e, h)
  | .d (.s sz []) => some (.s sz [], h)
  | .ref id p => h.take id p
  | _ => none
def takeL (h : Heap) : List X → Option (List D × Heap)
  | [] => some ([], h)
  | x :: xs => (takeX h x).bind fun a => (takeL a.2 xs).map fun b => (a.1 :: b.1, b.2)

/-- A value's cells. -/
def X.cells : X → List X
  | .agg cs => cs
  | x => [x]

mutual
/-- As memory that is only read, all the way down. -/
def D.fz : D → D
  | .v x => .v x
  | .s _ els => .r (fzs els)
  | .r els => .r (fzs els)
  | .u => .u
def fzs : List (List D) → List (List D)
  | [] => []
  | el :: els => fzl el :: fzs els
def fzl : List D → List D
  | [] => []
  | d :: ds => d.fz :: fzl ds
end
/-- What a call that only reads is handed. -/
def snapC (h : Heap) : X → Option X
  | .d (.v x) => some (.d (.v x))
  | .d (.r e) => some (.d (.r e))
  | .d (.s _ []) => some (.d (.r []))
  | .ref id p => (h.row id p).map fun r => .d (.r (fzs r.2))
  | _ => none
def snapL (h : Heap) : List X → Option (List X)
  | [] => some []
  | x :: xs => (snapC h x).bind fun y => (snapL h xs).map fun ys => y :: ys
def snap (h : Heap) : X → Option X
  | .agg cs => (snapL h cs).map .agg
  | x => snapC h x
def snaps (h : Heap) : List X → Option (List X)
  | [] => some []
  | x :: xs => (snap h x).bind fun y => (snaps h xs).map fun ys => y :: ys

/-- What a call hands back: its rows move out; addresses of elder frames stay. -/
def finC (fr : Nat) (h : Heap) : X → Option (X × Heap)
  | .ptr id q j i => if id.1 = fr then none else some (.ptr id q j i, h)
  | .ref id p => if id.1 = fr then (h.take id p).map fun a => (.d a.1, a.2) else some (.ref id p, h)
  | .d (.v x) => some (.d (.v x), h)
  | .d (.r e) => some (.d (.r e), h)
  | .d (.s sz []) => some (.d (.s sz []), h)
  | _ => none
def finL (fr : Nat) (h : Heap) : List X → Option (List X × Heap)
  | [] => some ([], h)
  | x :: xs => (finC fr h x).bind fun a => (finL fr a.2 xs).map fun b => (a.1 :: b.1, b.2)
def finV (fr : Nat) (h : Heap) : X → Option (X × Heap)
  | .agg cs => (finL fr h cs).map fun a => (.agg a.1, a.2)
  | x => finC fr h x
def fins (fr : Nat) (h : Heap) : List X → Option (List X × Heap)
  | [] => some ([], h)
  | x :: xs => (finV fr h x).bind fun a => (fins fr a.2 xs).map fun b => (a.1 :: b.1, b.2)
def packed : List X → X
  | [x] => x
  | xs => .tup xs
def dropF (fr : Nat) (h : Heap) : Heap := fun id => if id.1 = fr then none else h id

/-- A result's rows get places. -/
def impC (h : Heap) (id : Id) : X → X × Heap
  | .d (.s sz els) => (.ref id [], upd h id (some (.s sz els)))
  | x => (x, h)
def impL (h : Heap) (id : Id) : List X → List X × Heap
  | [] => ([], h)
  | x :: xs => ((impC h id x).1 :: (impL (impC h id x).2 (id.1, id.2 + 1) xs).1, (impL (impC h id x).2 (id.1, id.2 + 1) xs).2)
def impV (h : Heap) (id : Id) : X → X × Heap
  | .agg cs => (.agg (impL h id cs).1, (impL h id cs).2)
  | x => impC h id x
def impT (h : Heap) (id : Id) : List X → List X × Heap
  | [] => ([], h)
  | x :: xs => ((impV h id x).1 :: (impT (impV h id x).2 (id.1, id.2 + x.cells.length) xs).1, (impT (impV h id x).2 (id.1, id.2 + x.cells.length) xs).2)
def impR (h : Heap) (id : Id) : X → X × Heap
  | .tup cs => (.tup (impT h id cs).1, (impT h id cs).2)
  | x => impV h id x

/-! ### Operations -/
inductive O where
  | t (n : Nat)
  | c (x : Value)
  | n (sz : Nat)        -- a slice that is nil, of elements of so many cells
  | f (f : Nat)
  deriving Inhabited

inductive SOp where
  | mov (x : O)
  | pick (c a b : O)
  | ari (b : BinOp) (x y : O)
  | cmp (b : BinOp) (x y : O)
  | cmpb (b : BinOp) (x y : O)
  | cat (x y : O)
  | neg (x : O)
  | not (x : O)
  | conv (k : IntKind) (x : O)
  | rune (x : O)
  | sob (x : O)
  | idxb (f : Nat) (x y : O)                      -- the place of a byte in a string
  | bos (x : O)                                   -- the bytes of a string, only read
  | fld (off : Nat) (n : Option Nat) (x : O)      -- a field: so many cells (a struct), or one cell
  | faddr (off : Nat) (x : O)
  | ixa (sz : Nat) (x i : O)
  | ixs (x i : O)
  | load (n : Option Nat) (x : O)
  | store (n : Nat) (x y : O)
  | box (n : Nat) (x : O)
  | mm (mx : Bool) (x y : O)                      -- the greater, or the less, of two numbers
  | eqa (ng : Bool) (n : Nat) (x y : O)                     -- structs of numbers, the same or not
  | vbox (n : Nat) (x : O)                        -- a box that is only read
  | alloc (zs : List D)
  | build (zs : List D) (parts : List (Nat × Nat × O))  -- the zero cells; where, how many, what
  | lit (sz : Nat) (parts : List O)
  | mk (sz : Nat) (bytes : Nat) (zs : List D) (n : O)
  | cutr (sz : Nat) (x : O) (lo hi : Option O)               -- a part of a slice that is only read
  | cutS (x : O) (lo hi : Option O)               -- a part of a string
  | len (x : O)
  | slen (x : O)
  | app (sz bytes : Nat) (x y : O)
  | fn (f : Nat) (caps : List O)
  | callr (f : Nat) (xs : List O)                 -- a call, what it hands back is only read
  | call (f : Nat) (xs : List O)                  -- a call that only reads what it is handed
  | calli (f : O) (xs : List O)                   -- a call that goes on in the same memory
  | callb (f : Nat) (xs : List O) (bs : List Bool)  -- a call that is lent rows: those that it turns come back
  | ext (x : O) (i : Nat)
  | nck (x : O)
  deriving Inhabited

structure SItem where
  d : Option Nat
  g : Option (Nat × Bool) := none
  o : SOp
  deriving Inhabited

/-- An operation in a region whose order is left open: its number there; those ahead of it here that may come behind it. -/
structure DItem where
  it : SItem
  ix : Nat
  re : List SItem
  deriving Inhabited

inductive SCode where
  | skip
  | ops (l : List SItem)
  | opsd (l : List DItem)
  | clone (sz : Nat) (l : List SItem)   -- slices.Clone: what it does of a slice that is not nil
  | seq (a b : SCode)
  | cond (c : O) (a b : SCode)
  | block (id : Nat) (a : SCode)
  | loop (L : List Nat) (a : SCode)
  | exit (id : Nat)
  | ret
  | keep (L : List Nat)
  | stuck
  deriving Inhabited

inductive SRes where
  | t (n : Nat)
  | c (n : Nat) (k : Option Nat)   -- a cell, or a struct's cells, in memory
  deriving Inhabited

structure SFn where
  np : Nat
  nt : Nat
  code : SCode
  res : List SRes

inductive Ex where
  | nor
  | ext (id : Nat)
  | ret
  deriving DecidableEq

def rdO (st : St) : O → Option X
  | .t n => st.env n
  | .c x => some (.d (.v x))
  | .n sz => some (.d (.s sz []))
  | .f f => some (.d (.v (.func (.func f) #[] #[])))
def rdOs (st : St) : List O → Option (List X)
  | [] => some []
  | x :: xs => (rdO st x).bind fun a => (rdOs st xs).map fun as => a :: as

def X.int : X → Option (IntKind × Int)
  | .d (.v (.int k n)) => some (k, n)
  | _ => none
def X.bool : X → Option Bool
  | .d (.v (.bool b)) => some b
  | _ => none
def X.str : X → Option ByteArray
  | .d (.v (.string s)) => some s
  | _ => none
def rdI (st : St) (x : O) : Option (IntKind × Int) := (rdO st x).bind X.int
def rdB (st : St) (x : O) : Option Bool := (rdO st x).bind X.bool
def rdS (st : St) (x : O) : Option ByteArray := (rdO st x).bind X.str

def ariV : BinOp → IntKind → Int → Int → Option Int
  | .add, k, a, b => some (k.wrap (a + b))
  | .sub, k, a, b => some (k.wrap (a - b))
  | .mul, k, a, b => some (k.wrap (a * b))
  | .quo, k, a, b => if b = 0 then none else some (k.wrap (a.tdiv b))
  | .rem, _, a, b => if b = 0 then none else some (a.tmod b)
  | .and, k, a, b => some (bits .and k a b)
  | .or, k, a, b => some (bits .or k a b)
  | .xor, k, a, b => some (bits .xor k a b)
  | _, _, _, _ => none
def cmpI : BinOp → Int → Int → Option Bool
  | .eql, a, b => some (decide (a = b))
  | .neq, a, b => some (!decide (a = b))
  | .lss, a, b => some (decide (a < b))
  | .leq, a, b => some (decide (a ≤ b))
  | .gtr, a, b => some (decide (b < a))
  | .geq, a, b => some (decide (b ≤ a))
  | _, _, _ => none
def cmpS : BinOp → ByteArray → ByteArray → Option Bool
  | .eql, a, b => some (decide (a = b))
  | .neq, a, b => some (!decide (a = b))
  | _, _, _ => none
def cmpB : BinOp → Bool → Bool → Option Bool
  | .eql, a, b => some (a == b)
  | .neq, a, b => some (!(a == b))
  | _, _, _ => none
def cmpX (b : BinOp) : X → X → Option Bool
  | .d (.v (.int k m)), .d (.v (.int k' n)) => if k = k' then cmpI b m n else none
  | .d (.v (.string x)), .d (.v (.string y)) => cmpS b x y
  | _, _ => none

/-- A cell's value, as it is loaded: of memory that is only read; of the call's own. -/
def D.ro : D → Option X
  | .v x => some (.d (.v x))
  | .s _ els => some (.d (.r els))
  | .r els => some (.d (.r els))
  | .u => none
def D.own (id : Id) (p : Path) : D → Option X
  | .v x => some (.d (.v x))
  | .s _ _ => some (.ref id p)
  | .r els => some (.d (.r els))
  | .u => none
def roL : List D → Option (List X)
  | [] => some []
  | c :: cs => (c.ro).bind fun x => (roL cs).map fun xs => x :: xs
def ownL (id : Id) (q : Path) (j : Nat) : Nat → List D → Option (List X)
  | _, [] => some []
  | i, c :: cs => (c.own id (q ++ [(j, i)])).bind fun x => (ownL id q j (i + 1) cs).map fun xs => x :: xs
/-- So many cells from an address on. -/
def loadL (h : Heap) (n : Nat) : X → Option (List X)
  | .rop cs => if n ≤ cs.length then roL (cs.take n) else none
  | .vp cs => if n ≤ cs.length then some (cs.take n) else none
  | .ptr id q j i => (h.row id q).bind fun r => (r.2[j]?).bind fun el => if i + n ≤ el.length then ownL id q j i ((el.drop i).take n) else none
  | _ => none
def one : List X → Option X
  | [x] => some x
  | _ => none

/-- Does a value speak of a place at or behind another one? -/
def Path.under (q : Path) (j i n : Nat) : Path → Bool
  | p => q.isPrefixOf p && (match p.drop q.length with
    | (j', i') :: _ => j' == j && decide (i ≤ i') && decide (i' < i + n)
    | [] => false)
def X.hitC (id : Id) (q : Path) (j i n : Nat) : X → Bool
  | .ref id' p => id' == id && Path.under q j i n p
  | .ptr id' p _ _ => id' == id && Path.under q j i n p
  | .clo _ _ => true
  | .tup _ => true
  | .agg _ => true
  | .vp _ => true
  | _ => false
def hitL (id : Id) (q : Path) (j i n : Nat) : List X → Bool
  | [] => false
  | x :: xs => x.hitC id q j i n || hitL id q j i n xs
def X.hit (id : Id) (q : Path) (j i n : Nat) : X → Bool
  | .agg cs => hitL id q j i n cs
  | .vp cs => hitL id q j i n cs
  | .tup _ => true
  | x => x.hitC id q j i n
def purge (id : Id) (q : Path) (j i n : Nat) (e : Env) : Env := fun t => (e t).bind fun x => if x.hit id q j i n then none else some x
def plainL : List D → Bool
  | [] => true
  | .v _ :: cs => plainL cs
  | _ :: _ => false

def setCells (el : List D) (i : Nat) : List D → List D
  | [] => el
  | c :: cs => setCells (el.set i c) (i + 1) cs

def storeL (st : St) (n : Nat) (a : X) (cs : List X) : Option St :=
  match a with
  | .ptr id q j i => (takeL st.heap cs).bind fun b => if b.1.length = n then
      (b.2.row id q).bind fun r => (r.2[j]?).bind fun el => if i + n ≤ el.length then
        (b.2.put id q (.s r.1 (r.2.set j (setCells el i b.1)))).map fun h =>
          { st with heap := h, env := if plainL ((el.drop i).take n) && plainL b.1 then st.env else purge id q j i n st.env }
      else none
    else none
  | _ => none

/-- A variable of a call in a memory of its own that is set once and then only read: it holds what is put in, as it is. -/
def storeVd (st : St) (n t : Nat) (id : Id) (cs : List X) : Option D → Option St
  | some (.s _ [el]) => if el.length = n then some { st with heap := upd st.heap id none, env := upd st.env t (some (.vp cs)) } else none
  | _ => none
def storeV (st : St) (n : Nat) : O → X → X → Option St
  | .t t, .ptr id [] 0 0, .agg cs => if st.fr = 0 ∧ cs.length = n then storeVd st n t id cs (st.heap id) else none
  | _, _, _ => none
def setX (cs : List X) (i : Nat) : List X → List X
  | [] => cs
  | x :: xs => setX (cs.set i x) (i + 1) xs
def X.cellsV : X → Option (List X)
  | .tup _ => none
  | .agg cs => some cs
  | x => some [x]
def fillX (st : St) (cs : List X) : List (Nat × Nat × O) → Option (List X)
  | [] => some cs
  | (off, n, o) :: ps => (rdO st o).bind fun x => (x.cellsV).bind fun us => if us.length = n ∧ off + n ≤ cs.length then fillX st (setX cs off us) ps else none

def St.put (st : St) (d : Option Nat) (x : X) : St := match d with
  | some d => { st with env := upd st.env d (some x) }
  | none => st
def St.lose (st : St) (d : Option Nat) : St := match d with
  | some d => { st with env := upd st.env d none }
  | none => st
def St.with (st : St) (h : Heap) : St := { st with heap := h }

/-- The elements of a literal: each is moved in. -/
def takeEls (st : St) (sz : Nat) (h : Heap) : List O → Option (List (List D) × Heap)
  | [] => some ([], h)
  | o :: os => (rdO st o).bind fun x => (takeL h x.cells).bind fun a => if a.1.length = sz then (takeEls st sz a.2 os).map fun b => (a.1 :: b.1, b.2) else none
/-- What is copied out of memory that is only read leads to memory that is only read. -/
def D.toR : D → D
  | .s _ els => .r els
  | x => x
/-- The elements that an append puts behind. -/
def srcEls (h : Heap) : X → Option (List (List D) × Heap)
  | .d (.s _ []) => some ([], h)
  | .d (.r els) => some (els.map fun el => el.map D.toR, h)
  | .ref id p => (h.take id p).bind fun a => (a.1.rowOf).map fun r => (r.2, a.2)
  | _ => none
def baseEls (h : Heap) (sz : Nat) : X → Option (List (List D) × Heap)
  | .d (.s _ []) => some ([], h)
  | .ref id p => (h.take id p).bind fun a => (a.1.rowOf).bind fun r => if r.1 = sz then some (r.2, a.2) else none
  | _ => none
def lenX (h : Heap) : X → Option Nat
  | .d (.r els) => some els.length
  | .d (.s _ []) => some 0
  | .ref id p => (h.row id p).map fun r => r.2.length
  | _ => none
def ixaX (h : Heap) (sz : Nat) (n : Int) : X → Option X
  | .d (.r els) => if 0 ≤ n ∧ n < (els.length : Int) then (els[n.toNat]?).bind fun el => if el.length = sz then some (.rop el) else none else none
  | .ref id p => (h.row id p).bind fun r => if 0 ≤ n ∧ n < (r.2.length : Int) ∧ r.1 = sz then some (.ptr id p n.toNat 0) else none
  | _ => none
def bound (st : St) (dflt : Int) : Option O → Option Int
  | none => some dflt
  | some o => (rdI st o).map fun a => a.2
/-- A row of bytes. -/
def bytesL : List (List D) → Option (List Int)
  | [] => some []
  | [.v (.int .u8 n)] :: els => (bytesL els).map fun ns => n :: ns
  | _ => none
def strB (ns : List Int) : ByteArray := ns.foldl (fun r n => r.push (UInt8.ofNat n.toNat)) ByteArray.empty
def bytesX (h : Heap) : X → Option (List Int)
  | .ref id p => (h.row id p).bind fun r => if r.1 = 1 then bytesL r.2 else none
  | _ => none
def fldX (off : Nat) : Option Nat → List X → Option X
  | none, cs => cs[off]?
  | some n, cs => if off + n ≤ cs.length then some (.agg ((cs.drop off).take n)) else none
def loadV : Option Nat → List X → Option X
  | none, cs => one cs
  | some _, cs => some (.agg cs)
def nonnil : X → Option X
  | .ptr id q j i => some (.ptr id q j i)
  | .rop cs => some (.rop cs)
  | .vp cs => some (.vp cs)
  | _ => none
def faddrX (off : Nat) : X → Option X
  | .ptr id q j i => some (.ptr id q j (i + off))
  | .rop cs => some (.rop (cs.drop off))
  | .vp cs => some (.vp (cs.drop off))
  | _ => none
def fnOf : Value → Option Nat
  | .func (.func f) a b => if a.size = 0 ∧ b.size = 0 then some f else none
  | _ => none
def calleeX : X → Option (Nat × List X)
  | .d (.v x) => (fnOf x).map fun f => (f, [])
  | .clo f caps => some (f, caps)
  | _ => none
def X.ncells : X → Nat
  | .tup cs => (cs.map fun x => x.cells.length).sum
  | x => x.cells.length

/-- What speaks of whole rows and variables alone stays across a call that goes on in the same memory. -/
def X.rootC : X → Bool
  | .ref _ p => p.isEmpty
  | .ptr _ q _ _ => q.isEmpty
  | .agg _ => false
  | .tup _ => false
  | .clo _ _ => false
  | .vp _ => false
  | _ => true
def rootL : List X → Bool
  | [] => true
  | x :: xs => x.rootC && rootL xs
def X.root : X → Bool
  | .agg cs => rootL cs
  | .vp cs => rootL cs
  | .clo _ cs => rootL cs
  | x => x.rootC
def purgeN (e : Env) : Env := fun t => (e t).bind fun x => if x.root then some x else none
/-- Nothing in it leads to memory that is only read. -/
def D.noR : D → Bool
  | .v _ => true
  | .s _ els => noRss els
  | .r _ => false
  | .u => false
where
  noRss : List (List D) → Bool
    | [] => true
    | el :: els => noRs el && noRss els
  noRs : List D → Bool
    | [] => true
    | c :: cs => c.noR && noRs cs
def X.noRC : X → Bool
  | .d x => x.noR
  | _ => false
def noRL : List X → Bool
  | [] => true
  | x :: xs => x.noRC && noRL xs
def X.noRV : X → Bool
  | .agg cs => noRL cs
  | x => x.noRC
def noRT : List X → Bool
  | [] => true
  | x :: xs => x.noRV && noRT xs
def X.noR : X → Bool
  | .tup cs => noRT cs
  | x => x.noRV
/-- Does it lead to no row of the call's own? -/
def X.roC : X → Bool
  | .d _ => true
  | _ => false
def roAll : List X → Bool
  | [] => true
  | x :: xs => x.roC && roAll xs
def X.roV : X → Bool
  | .agg cs => roAll cs
  | x => x.roC
def roArgs : List X → Bool
  | [] => true
  | x :: xs => x.roV && roArgs xs

/-- A call: the function, what it is handed, memory, the frame's number; what it hands back, and memory then. -/
abbrev Cl := Nat → List X → Heap → Nat → Option (X × Heap)

/-- A call in a memory of its own. -/
def Cl.iso (C : Cl) (f : Nat) (args : List X) : Option X := (C f args emp 0).map fun r => r.1

def landed (st : St) (d : Option Nat) (id : Nat) (x : X) (h : Heap) : Option St :=
  if x.ncells ≤ 32 then some ((st.with (impR h (st.fr, id) x).2).put d (impR h (st.fr, id) x).1) else none

/-- What is handed back, as memory that is only read. -/
def X.frzC : X → X
  | .d (.s _ els) => .d (.r (fzs els))
  | x => x
def frzL : List X → List X
  | [] => []
  | x :: xs => x.frzC :: frzL xs
def X.frzV : X → X
  | .agg cs => .agg (frzL cs)
  | x => x.frzC
def frzT : List X → List X
  | [] => []
  | x :: xs => x.frzV :: frzT xs
def X.frz : X → X
  | .tup cs => .tup (frzT cs)
  | x => x.frzV
/-! ### What a call is lent: rows leave their places and get the numbers (0, k) -/
abbrev Lent := List (Id × Path × D)
def borC (h : Heap) (k : Nat) : X → Option (X × Heap × Lent)
  | .ref id p => (h.take id p).map fun a => (.ref (0, k) [], a.2, [(id, p, a.1)])
  | .ptr id q j i => (h.take id q).map fun a => (.ptr (0, k) [] j i, a.2, [(id, q, a.1)])
  | .d (.v x) => some (.d (.v x), h, [])
  | .d (.r e) => some (.d (.r e), h, [])
  | .d (.s sz []) => some (.d (.s sz []), h, [])
  | _ => none
def borL (h : Heap) (k : Nat) : List X → Option (List X × Heap × Lent)
  | [] => some ([], h, [])
  | x :: xs => (borC h k x).bind fun a => (borL a.2.1 (k + a.2.2.length) xs).map fun b => (a.1 :: b.1, b.2.1, a.2.2 ++ b.2.2)
def borV (h : Heap) (k : Nat) : X → Option (X × Heap × Lent)
  | .agg cs => (borL h k cs).map fun a => (.agg a.1, a.2)
  | x => borC h k x
def borA (h : Heap) (k : Nat) : List X → List Bool → Option (List X × Heap × Lent)
  | [], _ => some ([], h, [])
  | x :: xs, true :: bs => (borV h k x).bind fun a => (borA a.2.1 (k + a.2.2.length) xs bs).map fun c => (a.1 :: c.1, c.2.1, a.2.2 ++ c.2.2)
  | x :: xs, false :: bs => (borA h k xs bs).map fun c => (x :: c.1, c.2.1, c.2.2)
  | _ :: _, [] => none
/-- What is not lent is only read. -/
def snapF (h : Heap) : List X → List Bool → Option (List X)
  | [], _ => some []
  | x :: xs, true :: bs => (snapF h xs bs).map fun ys => x :: ys
  | x :: xs, false :: bs => (snap h x).bind fun y => (snapF h xs bs).map fun ys => y :: ys
  | _ :: _, [] => none
def roF : List X → List Bool → Bool
  | [], _ => true
  | _ :: xs, true :: bs => roF xs bs
  | x :: xs, false :: bs => x.roV && roF xs bs
  | _ :: _, [] => false
def lentH : Nat → Lent → Heap
  | _, [] => emp
  | k, a :: L => upd (lentH (k + 1) L) (0, k) (some a.2.2)
def apart1 (id : Id) (p : Path) : Lent → Bool
  | [] => true
  | b :: L => (!decide (b.1 = id) || (!p.isPrefixOf b.2.1 && !b.2.1.isPrefixOf p)) && apart1 id p L
def apart : Lent → Bool
  | [] => true
  | a :: L => apart1 a.1 a.2.1 L && apart L
/-- A row comes back to its place. -/
def Heap.putb (h : Heap) (id : Id) : Path → D → Option Heap
  | [], x => some (upd h id (some x))
  | c :: p, x => h.put id (c :: p) x
def backH (h hB : Heap) : Nat → Lent → Option Heap
  | _, [] => some h
  | k, a :: L => match hB (0, k) with
    | some (.s sz els) => (h.putb a.1 a.2.1 (.s sz els)).bind fun h' => backH h' hB (k + 1) L
    | some _ => none
    | none => backH h hB (k + 1) L
def noRB (hB : Heap) : Nat → Lent → Bool
  | _, [] => true
  | k, _ :: L => (match hB (0, k) with
    | some d => d.noR
    | none => true) && noRB hB (k + 1) L
/-- Does a value speak of a place within a row that was lent? -/
def X.inC (id : Id) (p : Path) : X → Bool
  | .ref id' p' => decide (id' = id) && p.isPrefixOf p' && !decide (p' = p)
  | .ptr id' p' _ _ => decide (id' = id) && p.isPrefixOf p' && !decide (p' = p)
  | .clo _ _ => true
  | .tup _ => true
  | .agg _ => true
  | .vp _ => true
  | _ => false
def inL (id : Id) (p : Path) : List X → Bool
  | [] => false
  | x :: xs => x.inC id p || inL id p xs
def X.inV (id : Id) (p : Path) : X → Bool
  | .agg cs => inL id p cs
  | .vp cs => inL id p cs
  | .clo _ cs => inL id p cs
  | x => x.inC id p
def inLent (x : X) : Lent → Bool
  | [] => false
  | a :: L => x.inV a.1 a.2.1 || inLent x L
def purgeL (L : Lent) (e : Env) : Env := fun t => (e t).bind fun x => if inLent x L then none else some x
def X.noP : X → Bool
  | .tup cs => roArgs cs
  | x => x.roV
/-- What is asked of sizes. -/
def catOk (a b : ByteArray) : Prop := a.size + b.size ≤ 9223372036854775807
instance (a b : ByteArray) : Decidable (catOk a b) := inferInstanceAs (Decidable (_ ≤ _))
def mkOk (bytes : Nat) (n : Int) : Prop := 0 ≤ n ∧ bytes * n ≤ 281474976710656
instance (b : Nat) (n : Int) : Decidable (mkOk b n) := inferInstanceAs (Decidable (_ ∧ _))
def appOk (bytes m n : Nat) : Prop := (m + n) * bytes ≤ 140737488355328 ∧ m + n ≤ 140737488355328
instance (b m n : Nat) : Decidable (appOk b m n) := inferInstanceAs (Decidable (_ ∧ _))
/-- Structs of numbers: are they the same? -/
def eqAgg : List X → List X → Option Bool
  | [], [] => some true
  | .d (.v (.int k m)) :: xs, .d (.v (.int k' n)) :: ys => if k = k' then (eqAgg xs ys).map fun b => decide (m = n) && b else none
  | _, _ => none
def X.aggOf : X → Option (List X)
  | .agg cs => some cs
  | _ => none
def bytesR (s : ByteArray) : List (List D) := s.data.toList.map fun b => [.v (.int .u8 b.toNat)]
def opS (C : Cl) (st : St) (d : Option Nat) (id : Nat) : SOp → Option St
  | .mov x => (rdO st x).map (st.put d)
  | .pick c a b => (rdB st c).bind fun t => if t then (rdO st a).map (st.put d) else (rdO st b).map (st.put d)
  | .ari b x y => (rdI st x).bind fun m => (rdI st y).bind fun n => if m.1 = n.1 then (ariV b m.1 m.2 n.2).map fun z => st.put d (.d (.v (.int m.1 z))) else none
  | .cmp b x y => (rdO st x).bind fun m => (rdO st y).bind fun n => (cmpX b m n).map fun z => st.put d (.d (.v (.bool z)))
  | .cmpb b x y => (rdB st x).bind fun m => (rdB st y).bind fun n => (cmpB b m n).map fun z => st.put d (.d (.v (.bool z)))
  | .cat x y => (rdS st x).bind fun a => (rdS st y).bind fun b => if catOk a b then some (st.put d (.d (.v (.string (a ++ b))))) else none
  | .neg x => (rdI st x).map fun m => st.put d (.d (.v (.int m.1 (m.1.wrap (0 - m.2)))))
  | .not x => (rdB st x).map fun b => st.put d (.d (.v (.bool !b)))
  | .conv k x => (rdI st x).map fun m => st.put d (.d (.v (.int k (k.wrap m.2))))
  | .rune x => (rdI st x).map fun m => st.put d (.d (.v (.string (Utf8.encode m.2))))
  | .bos x => (rdS st x).bind fun s => if appOk 1 0 s.size then some (st.put d (.d (.r (bytesR s)))) else none
  | .idxb _ x y => (rdS st x).bind fun s => (rdI st y).bind fun m => if m.1 = .u8 then some (st.put d (.d (.v (.int .i64 (Lib.indexByte s.data.toList m.2.toNat.toUInt8))))) else none
  | .sob x => (rdO st x).bind fun a => (bytesX st.heap a).bind fun ns => if ns.isEmpty then none else some (st.put d (.d (.v (.string (strB ns)))))
  | .fld off n x => (rdO st x).bind fun a => match a with
    | .agg cs => (fldX off n cs).map (st.put d)
    | _ => none
  | .faddr off x => (rdO st x).bind fun a => (faddrX off a).map (st.put d)
  | .ixa sz x i => (rdO st x).bind fun a => (rdI st i).bind fun n => (ixaX st.heap sz n.2 a).map (st.put d)
  | .ixs x i => (rdS st x).bind fun s => (rdI st i).bind fun n => if 0 ≤ n.2 then (s[n.2.toNat]?).map fun b => st.put d (.d (.v (.int .u8 b.toNat))) else none
  | .load n x => (rdO st x).bind fun a => (loadL st.heap (n.getD 1) a).bind fun cs => (loadV n cs).map (st.put d)
  | .store n x y => (rdO st x).bind fun a => (rdO st y).bind fun b => (if 10000 ≤ n then storeV st (n - 10000) x a b else storeL st n a b.cells).map fun s => s.lose d
  | .box n x => (rdO st x).bind fun a => (takeL st.heap a.cells).bind fun b => if b.1.length = n then
      some ((st.with (upd b.2 (st.fr, id) (some (.s n [b.1])))).put d (.ptr (st.fr, id) [] 0 0)) else none
  | .mm mx x y => (rdI st x).bind fun m => (rdI st y).bind fun n => if m.1 = n.1 then some (st.put d (.d (.v (.int m.1 (if mx then (if m.2 < n.2 then n.2 else m.2) else (if n.2 < m.2 then n.2 else m.2)))))) else none
  | .eqa ng k x y => (rdO st x).bind fun a => (rdO st y).bind fun b => (a.aggOf).bind fun cs => (b.aggOf).bind fun ds => (eqAgg cs ds).bind fun z => if cs.length = k then some (st.put d (.d (.v (.bool (if ng then !z else z))))) else none
  | .vbox n x => (rdO st x).bind fun a => (a.cellsV).bind fun cs => if cs.length = n then some (st.put d (.vp cs)) else none
  | .alloc zs => some ((st.with (upd st.heap (st.fr, id) (some (.s zs.length [zs])))).put d (.ptr (st.fr, id) [] 0 0))
  | .build zs parts => (fillX st (zs.map .d) parts).map fun cs => st.put d (.agg cs)
  | .lit sz parts => (takeEls st sz st.heap parts).map fun a => (st.with (upd a.2 (st.fr, id) (some (.s sz a.1)))).put d (.ref (st.fr, id) [])
  | .mk sz bytes zs n => (rdI st n).bind fun m => if mkOk bytes m.2 ∧ zs.length = sz then
      some ((st.with (upd st.heap (st.fr, id) (some (.s sz (List.replicate m.2.toNat zs))))).put d (.ref (st.fr, id) [])) else none
  | .cutr sz x lo hi => (rdO st x).bind fun a => match a with
    | .d (.r els) => (bound st 0 lo).bind fun l => (bound st (els.length : Int) hi).bind fun h => if 0 ≤ l ∧ l ≤ h ∧ h ≤ (els.length : Int) ∧ els.all (fun el => el.length == sz) = true then some (st.put d (.d (.r ((els.take h.toNat).drop l.toNat)))) else none
    | _ => none
  | .cutS x lo hi => (rdS st x).bind fun s => (bound st 0 lo).bind fun l => (bound st (s.size : Int) hi).bind fun h => if 0 ≤ l ∧ l ≤ h ∧ h ≤ (s.size : Int) then some (st.put d (.d (.v (.string (s.extract l.toNat h.toNat))))) else none
  | .slen x => (rdS st x).map fun s => st.put d (.d (.v (.int .i64 (s.size : Int))))
  | .len x => (rdO st x).bind fun a => (lenX st.heap a).map fun (n : Nat) => st.put d (.d (.v (.int .i64 (n : Int))))
  | .app sz bytes x y => (rdO st x).bind fun a => (rdO st y).bind fun b => (baseEls st.heap sz a).bind fun l => (srcEls l.2 b).bind fun m =>
      if appOk bytes l.1.length m.1.length ∧ m.1.all (fun el => el.length == sz) then
        some ((st.with (upd m.2 (st.fr, id) (some (.s sz (l.1 ++ m.1))))).put d (.ref (st.fr, id) [])) else none
  | .fn f caps => (rdOs st caps).map fun xs => st.put d (if xs.isEmpty then .d (.v (.func (.func f) #[] #[])) else .clo f xs)
  | .call f xs => (rdOs st xs).bind fun as => (snaps st.heap as).bind fun bs => (C.iso f bs).bind fun r => if roArgs as || r.noR then landed st d id r st.heap else none
  | .callr f xs => (rdOs st xs).bind fun as => (snaps st.heap as).bind fun bs => (C.iso f bs).bind fun r => if roArgs as || r.noR then some (st.put d r.frz) else none
  | .calli f xs => (rdO st f).bind fun c => (calleeX c).bind fun g => (rdOs st xs).bind fun as => (C g.1 (as ++ g.2) st.heap (st.fr + 1)).bind fun r => landed { st with env := purgeN st.env } d id r.1 r.2
  | .callb f xs bs => (rdOs st xs).bind fun as => (borA st.heap 0 as bs).bind fun m => (snapF m.2.1 m.1 bs).bind fun ys => (C f ys (lentH 0 m.2.2) 1).bind fun r =>
      if (apart m.2.2 && r.1.noP && (roF as bs || (r.1.noR && noRB r.2 0 m.2.2))) = true then (backH m.2.1 r.2 0 m.2.2).bind fun h2 => landed { st with env := purgeL m.2.2 st.env } d id r.1 h2 else none
  | .ext x i => (rdO st x).bind fun a => match a with
    | .tup cs => (cs[i]?).map (st.put d)
    | _ => none
  | .nck x => (rdO st x).bind fun a => (nonnil a).map (st.put d)

/-- What a guard sees: a truth value, or that its own operation was left out. -/
def gX : X → Option (Option Bool)
  | .d (.v (.bool b)) => some (some b)
  | .tup [] => some none
  | _ => none
/-- An operation behind its guard. -/
def itS (C : Cl) (st : St) (id : Nat) (it : SItem) : Option St := match it.g with
  | none => opS C st it.d id it.o
  | some (s, b) => ((st.env s).bind gX).bind fun c => if c = some b then opS C st it.d id it.o else some (st.put it.d (.tup []))
def opsS (C : Cl) (st : St) : Nat → List SItem → Option St
  | i, [] => some { st with next := st.next + i }
  | i, it :: l => (itS C st (st.next + i) it).bind fun st' => opsS C st' (i + 32) l

/-- Done once more, an operation that only reads tells the same. -/
noncomputable def reK (st : St) (d : Option Nat) (s2 : St) : Option Unit := match d with
  | none => some ()
  | some d => open Classical in if s2.env d = st.env d then some () else none
noncomputable def reS (C : Cl) (st : St) : List SItem → Option Unit
  | [] => some ()
  | x :: l => ((itS C st 0 x).bind (reK st x.d)).bind fun _ => reS C st l
noncomputable def opsD (C : Cl) (b : Nat) : List DItem → St → Option St
  | [], st => some st
  | y :: l, st => (itS C st (b + 32 * y.ix) y.it).bind fun s => (reS C s y.re).bind fun _ => opsD C b l s

/-- A copy of a slice, nil or not. -/
def X.elsOf : X → Option (List (List D))
  | .d (.r els) => some els
  | _ => none
def X.rowId : X → Option Id
  | .ref id [] => some id
  | _ => none
def cloneF (st : St) (sz : Nat) (els : List (List D)) (s : St) : Option (Ex × St) := ((s.env 2).bind X.rowId).bind fun id => ((s.heap id).bind D.rowOf).bind fun r =>
  if r.1 = sz ∧ (els.isEmpty = true → r.2.isEmpty = true) ∧ id.1 = st.fr ∧ st.next + 64 ≤ id.2 ∧ id.2 < s.next then some (.ret, { env := upd emp 2 (some (.ref id [])), heap := upd emp id (some (.s r.1 r.2)), fr := st.fr, next := s.next }) else none
def cloneS (st : St) (x : X) : St := { env := upd emp 0 (some x), heap := st.heap, fr := st.fr, next := st.next + 32 }

/-! ### What is kept: by slots; the frame's own rows get new numbers -/
def kid (fr : Nat) (m : List (Nat × Nat)) (id : Id) : Id := if id.1 = fr then (fr, ((m.find? fun a => a.1 == id.2).map fun a => a.2).getD 0) else id
/-- The numbers of this frame's rows that a value speaks of. -/
def X.offC (fr : Nat) : X → List Nat
  | .ref id _ => if id.1 = fr then [id.2] else []
  | .ptr id _ _ _ => if id.1 = fr then [id.2] else []
  | _ => []
def offL (fr : Nat) : List X → List Nat
  | [] => []
  | x :: xs => x.offC fr ++ offL fr xs
def X.offs (fr : Nat) : X → List Nat
  | .agg cs => offL fr cs
  | .vp cs => offL fr cs
  | .clo _ cs => offL fr cs
  | x => x.offC fr
def X.renC (f : Id → Id) : X → X
  | .ref id p => .ref (f id) p
  | .ptr id q j i => .ptr (f id) q j i
  | x => x
def X.ren (f : Id → Id) : X → X
  | .agg cs => .agg (cs.map (X.renC f))
  | .vp cs => .vp (cs.map (X.renC f))
  | .clo n cs => .clo n (cs.map (X.renC f))
  | x => x.renC f
/-- May it be kept: a tuple is not, nor what holds other things than cells. -/
def X.flat : X → Bool
  | .tup _ => false
  | .agg _ => false
  | .vp _ => false
  | .clo _ _ => false
  | _ => true
def X.keeps : X → Bool
  | .tup _ => false
  | .agg cs => cs.all X.flat
  | .vp cs => cs.all X.flat
  | .clo _ cs => cs.all X.flat
  | _ => true
def addN (m : List (Nat × Nat)) : List Nat → List (Nat × Nat)
  | [] => m
  | o :: os => if (m.find? fun a => a.1 == o).isSome then addN m os else addN (m ++ [(o, m.length)]) os
def keepM (st : St) (m : List (Nat × Nat)) : List Nat → List (Nat × Nat)
  | [] => m
  | t :: ts => match st.env t with
    | some x => if x.keeps then keepM st (addN m (x.offs st.fr)) ts else keepM st m ts
    | none => keepM st m ts
def keepE (st : St) (m : List (Nat × Nat)) : List Nat → Env
  | [] => emp
  | t :: ts => match st.env t with
    | some x => if x.keeps then upd (keepE st m ts) t (some (x.ren (kid st.fr m))) else keepE st m ts
    | none => keepE st m ts
def keepH (fr : Nat) (h : Heap) : List (Nat × Nat) → Heap
  | [] => dropF fr h
  | (o, n) :: m => upd (keepH fr h m) (fr, n) (h (fr, o))
def keepO (L : List Nat) (st : St) : St :=
  { env := keepE st (keepM st [] L) L, heap := keepH st.fr st.heap (keepM st [] L), fr := st.fr, next := (keepM st [] L).length }
/-- A row's cells, as memory that is only read. -/
def D.ice : D → D
  | .s _ els => .r (fzs els)
  | x => x
def iceH (id : Id) (st : St) : Option D → St
  | some (.s sz els) => { st with heap := upd st.heap id (some (.s sz (els.map fun el => el.map D.ice))) }
  | _ => st
def iceE (st : St) : Option X → St
  | some (.ptr id [] _ _) => if id.1 = 0 then iceH id st (st.heap id) else st
  | _ => st
/-- A call in a memory of its own may give up what a variable leads to. -/
def iceS (t : Nat) (st : St) : St := if st.fr = 0 then iceE st (st.env t) else st
def keepS : List Nat → St → St
  | [], st => keepO [] st
  | t :: L, st => if 10000 ≤ t then keepO L (iceS (t - 10000) st) else keepO (t :: L) st

/-! ### Code -/
def initE : Nat → List X → Env
  | _, [] => emp
  | i, x :: xs => upd (initE (i + 1) xs) i (some x)
def rdRes (st : St) : List SRes → Option (List X)
  | [] => some []
  | .t n :: rs => (st.env n).bind fun x => (rdRes st rs).map fun xs => x :: xs
  | .c n k :: rs => ((st.env n).bind fun a => (loadL st.heap (k.getD 1) a).bind (loadV k)).bind fun x => (rdRes st rs).map fun xs => x :: xs

mutual
noncomputable def ev (Φ : Nat → Option SFn) : Nat → SCode → St → Option (Ex × St)
  | 0, _, _ => none
  | k + 1, c, st => match c with
    | .skip => some (.nor, st)
    | .ops l => (opsS (evC Φ k) st 0 l).map fun s => (.nor, s)
    | .opsd l => (opsD (evC Φ k) st.next l st).map fun s => (.nor, { s with next := st.next + 32 * l.length })
    | .clone sz l => (st.env 0).bind fun x => (x.elsOf).bind fun els => (opsS (evC Φ k) (cloneS st x) 0 l).bind (cloneF st sz els)
    | .seq a b => (ev Φ k a st).bind fun r => match r.1 with
      | .nor => ev Φ k b r.2
      | x => some (x, r.2)
    | .cond o a b => (rdB st o).bind fun t => if t then ev Φ k a st else ev Φ k b st
    | .block id a => (ev Φ k a st).map fun r => (if r.1 = .ext id then .nor else r.1, r.2)
    | .loop L a => (ev Φ k a (keepS L st)).bind fun r => match r.1 with
      | .nor => ev Φ k (.loop L a) r.2
      | x => some (x, r.2)
    | .exit id => some (.ext id, st)
    | .ret => some (.ret, st)
    | .keep L => some (.nor, keepS L st)
    | .stuck => none
noncomputable def evC (Φ : Nat → Option SFn) : Nat → Cl
  | 0 => fun _ _ _ _ => none
  | k + 1 => fun f args h fr => (Φ f).bind fun fn => if args.length = fn.np then
      (ev Φ k fn.code { env := initE 0 args, heap := h, fr := fr, next := 0 }).bind fun r => match r.1 with
        | .ext _ => none
        | _ => (rdRes r.2 fn.res).bind fun xs => (fins fr r.2.heap xs).map fun b => (packed b.1, dropF fr b.2)
    else none
end

end Go.Ev
