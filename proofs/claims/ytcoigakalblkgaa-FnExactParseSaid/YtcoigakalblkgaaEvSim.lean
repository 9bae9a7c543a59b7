/- The operations in steps, so that a state stands in no function's body. -/
import Derived.Test.YtcoigakalblkgaaEvRow
set_option linter.all false
namespace Go.Ev
def hitK (id : Id) (q : Path) (j i n : Nat) (x : X) : Option X := if x.hit id q j i n then none else some x
theorem purge_ap (id : Id) (q : Path) (j i n : Nat) (e : Env) (t : Nat) : purge id q j i n e t = (e t).bind (hitK id q j i n) := rfl
theorem hitK_eq (id : Id) (q : Path) (j i n : Nat) (x : X) : hitK id q j i n x = if x.hit id q j i n then none else some x := rfl
def lentK (L : Lent) (x : X) : Option X := if inLent x L then none else some x
theorem purgeL_ap (L : Lent) (e : Env) (t : Nat) : purgeL L e t = (e t).bind (lentK L) := rfl
theorem lentK_eq (L : Lent) (x : X) : lentK L x = if inLent x L then none else some x := rfl
def rootK (x : X) : Option X := if x.root then some x else none
theorem purgeN_ap (e : Env) (t : Nat) : purgeN e t = (e t).bind rootK := rfl
theorem rootK_eq (x : X) : rootK x = if x.root then some x else none := rfl
variable {C : Cl} {st : St} {d : Option Nat} {id : Nat}
def pickK (st : St) (d : Option Nat) (a b : O) (t : Bool) : Option St := if t then (rdO st a).map (st.put d) else (rdO st b).map (st.put d)
theorem pickK_t (a b : O) : pickK st d a b true = (rdO st a).map (st.put d) := rfl
theorem pickK_f (a b : O) : pickK st d a b false = (rdO st b).map (st.put d) := rfl
theorem opS_mov (x : O) : opS C st d id (.mov x) = (rdO st x).map (st.put d) := rfl
theorem opS_pick (c a b : O) : opS C st d id (.pick c a b) = (rdB st c).bind (pickK st d a b) := rfl
def putI (st : St) (d : Option Nat) (k : IntKind) (z : Int) : St := st.put d (.d (.v (.int k z)))
def putB (st : St) (d : Option Nat) (z : Bool) : St := st.put d (.d (.v (.bool z)))
def putS (st : St) (d : Option Nat) (z : ByteArray) : St := st.put d (.d (.v (.string z)))
theorem putI_eq (k : IntKind) (z : Int) : putI st d k z = st.put d (.d (.v (.int k z))) := rfl
theorem putB_eq (z : Bool) : putB st d z = st.put d (.d (.v (.bool z))) := rfl
theorem putS_eq (z : ByteArray) : putS st d z = st.put d (.d (.v (.string z))) := rfl
def ariK2 (st : St) (d : Option Nat) (b : BinOp) (m n : IntKind × Int) : Option St := if m.1 = n.1 then (ariV b m.1 m.2 n.2).map (putI st d m.1) else none
def ariK (st : St) (d : Option Nat) (b : BinOp) (y : O) (m : IntKind × Int) : Option St := (rdI st y).bind (ariK2 st d b m)
theorem opS_ari (b : BinOp) (x y : O) : opS C st d id (.ari b x y) = (rdI st x).bind (ariK st d b y) := rfl
theorem ariK_eq (b : BinOp) (y : O) (m : IntKind × Int) : ariK st d b y m = (rdI st y).bind (ariK2 st d b m) := rfl
theorem ariK2_eq (b : BinOp) (k : IntKind) (m n : Int) : ariK2 st d b (k, m) (k, n) = (ariV b k m n).map (putI st d k) := by unfold ariK2; rw [if_pos rfl]
def cmpK2 (st : St) (d : Option Nat) (b : BinOp) (m n : X) : Option St := (cmpX b m n).map (putB st d)
def cmpK (st : St) (d : Option Nat) (b : BinOp) (y : O) (m : X) : Option St := (rdO st y).bind (cmpK2 st d b m)
theorem opS_cmp (b : BinOp) (x y : O) : opS C st d id (.cmp b x y) = (rdO st x).bind (cmpK st d b y) := rfl
theorem cmpK_eq (b : BinOp) (y : O) (m : X) : cmpK st d b y m = (rdO st y).bind (cmpK2 st d b m) := rfl
theorem cmpK2_eq (b : BinOp) (m n : X) : cmpK2 st d b m n = (cmpX b m n).map (putB st d) := rfl
def cmpbK2 (st : St) (d : Option Nat) (b : BinOp) (m n : Bool) : Option St := (cmpB b m n).map (putB st d)
def cmpbK (st : St) (d : Option Nat) (b : BinOp) (y : O) (m : Bool) : Option St := (rdB st y).bind (cmpbK2 st d b m)
theorem opS_cmpb (b : BinOp) (x y : O) : opS C st d id (.cmpb b x y) = (rdB st x).bind (cmpbK st d b y) := rfl
theorem cmpbK_eq (b : BinOp) (y : O) (m : Bool) : cmpbK st d b y m = (rdB st y).bind (cmpbK2 st d b m) := rfl
theorem cmpbK2_eq (b : BinOp) (m n : Bool) : cmpbK2 st d b m n = (cmpB b m n).map (putB st d) := rfl
def catK2 (st : St) (d : Option Nat) (a b : ByteArray) : Option St := if catOk a b then some (st.put d (.d (.v (.string (a ++ b))))) else none
def catK (st : St) (d : Option Nat) (y : O) (a : ByteArray) : Option St := (rdS st y).bind (catK2 st d a)
theorem opS_cat (x y : O) : opS C st d id (.cat x y) = (rdS st x).bind (catK st d y) := rfl
theorem catK_eq (y : O) (a : ByteArray) : catK st d y a = (rdS st y).bind (catK2 st d a) := rfl
theorem catK2_eq {a b : ByteArray} (h : catOk a b) : catK2 st d a b = some (st.put d (.d (.v (.string (a ++ b))))) := if_pos h
def negK (st : St) (d : Option Nat) (m : IntKind × Int) : St := st.put d (.d (.v (.int m.1 (m.1.wrap (0 - m.2)))))
theorem opS_neg (x : O) : opS C st d id (.neg x) = (rdI st x).map (negK st d) := rfl
theorem negK_eq (k : IntKind) (m : Int) : negK st d (k, m) = st.put d (.d (.v (.int k (k.wrap (0 - m))))) := rfl
def notK (st : St) (d : Option Nat) (b : Bool) : St := st.put d (.d (.v (.bool !b)))
theorem opS_not (x : O) : opS C st d id (.not x) = (rdB st x).map (notK st d) := rfl
theorem notK_eq (b : Bool) : notK st d b = st.put d (.d (.v (.bool !b))) := rfl
def convK (st : St) (d : Option Nat) (k : IntKind) (m : IntKind × Int) : St := st.put d (.d (.v (.int k (k.wrap m.2))))
theorem opS_conv (k : IntKind) (x : O) : opS C st d id (.conv k x) = (rdI st x).map (convK st d k) := rfl
theorem convK_eq (k k' : IntKind) (m : Int) : convK st d k (k', m) = st.put d (.d (.v (.int k (k.wrap m)))) := rfl
def runeK (st : St) (d : Option Nat) (m : IntKind × Int) : St := st.put d (.d (.v (.string (Utf8.encode m.2))))
theorem opS_rune (x : O) : opS C st d id (.rune x) = (rdI st x).map (runeK st d) := rfl
theorem runeK_eq (k : IntKind) (m : Int) : runeK st d (k, m) = st.put d (.d (.v (.string (Utf8.encode m)))) := rfl
def bosK (st : St) (d : Option Nat) (s : ByteArray) : Option St := if appOk 1 0 s.size then some (st.put d (.d (.r (bytesR s)))) else none
theorem opS_bos (x : O) : opS C st d id (.bos x) = (rdS st x).bind (bosK st d) := rfl
theorem bosK_eq (s : ByteArray) : bosK st d s = if appOk 1 0 s.size then some (st.put d (.d (.r (bytesR s)))) else none := rfl
def idxbK2 (st : St) (d : Option Nat) (s : ByteArray) (m : IntKind × Int) : Option St := if m.1 = .u8 then some (st.put d (.d (.v (.int .i64 (Lib.indexByte s.data.toList m.2.toNat.toUInt8))))) else none
def idxbK (st : St) (d : Option Nat) (y : O) (s : ByteArray) : Option St := (rdI st y).bind (idxbK2 st d s)
theorem opS_idxb (f : Nat) (x y : O) : opS C st d id (.idxb f x y) = (rdS st x).bind (idxbK st d y) := rfl
theorem idxbK_eq (y : O) (s : ByteArray) : idxbK st d y s = (rdI st y).bind (idxbK2 st d s) := rfl
theorem idxbK2_eq (s : ByteArray) (n : Int) : idxbK2 st d s (.u8, n) = some (st.put d (.d (.v (.int .i64 (Lib.indexByte s.data.toList n.toNat.toUInt8))))) := rfl
def sobK2 (st : St) (d : Option Nat) (ns : List Int) : Option St := if ns.isEmpty then none else some (st.put d (.d (.v (.string (strB ns)))))
def sobK (st : St) (d : Option Nat) (a : X) : Option St := (bytesX st.heap a).bind (sobK2 st d)
theorem opS_sob (x : O) : opS C st d id (.sob x) = (rdO st x).bind (sobK st d) := rfl
theorem sobK_eq (a : X) : sobK st d a = (bytesX st.heap a).bind (sobK2 st d) := rfl
theorem sobK2_eq (n : Int) (ns : List Int) : sobK2 st d (n :: ns) = some (st.put d (.d (.v (.string (strB (n :: ns)))))) := rfl
def fldK (st : St) (d : Option Nat) (off : Nat) (n : Option Nat) : X → Option St
  | .agg cs => (fldX off n cs).map (st.put d)
  | _ => none
theorem opS_fld (off : Nat) (n : Option Nat) (x : O) : opS C st d id (.fld off n x) = (rdO st x).bind (fldK st d off n) := by
  simp only [opS]
  congr 1
theorem fldK_eq (off : Nat) (n : Option Nat) (cs : List X) : fldK st d off n (.agg cs) = (fldX off n cs).map (st.put d) := rfl
def faddrK (st : St) (d : Option Nat) (off : Nat) (a : X) : Option St := (faddrX off a).map (st.put d)
theorem opS_faddr (off : Nat) (x : O) : opS C st d id (.faddr off x) = (rdO st x).bind (faddrK st d off) := rfl
theorem faddrK_eq (off : Nat) (a : X) : faddrK st d off a = (faddrX off a).map (st.put d) := rfl
def ixaK2 (st : St) (d : Option Nat) (sz : Nat) (a : X) (n : IntKind × Int) : Option St := (ixaX st.heap sz n.2 a).map (st.put d)
def ixaK (st : St) (d : Option Nat) (sz : Nat) (i : O) (a : X) : Option St := (rdI st i).bind (ixaK2 st d sz a)
theorem opS_ixa (sz : Nat) (x i : O) : opS C st d id (.ixa sz x i) = (rdO st x).bind (ixaK st d sz i) := rfl
theorem ixaK_eq (sz : Nat) (i : O) (a : X) : ixaK st d sz i a = (rdI st i).bind (ixaK2 st d sz a) := rfl
theorem ixaK2_eq (sz : Nat) (a : X) (k : IntKind) (n : Int) : ixaK2 st d sz a (k, n) = (ixaX st.heap sz n a).map (st.put d) := rfl
def byteK (st : St) (d : Option Nat) (b : UInt8) : St := st.put d (.d (.v (.int .u8 b.toNat)))
def ixsK2 (st : St) (d : Option Nat) (s : ByteArray) (n : IntKind × Int) : Option St := if 0 ≤ n.2 then (s[n.2.toNat]?).map (byteK st d) else none
def ixsK (st : St) (d : Option Nat) (i : O) (s : ByteArray) : Option St := (rdI st i).bind (ixsK2 st d s)
theorem opS_ixs (x i : O) : opS C st d id (.ixs x i) = (rdS st x).bind (ixsK st d i) := rfl
theorem ixsK_eq (i : O) (s : ByteArray) : ixsK st d i s = (rdI st i).bind (ixsK2 st d s) := rfl
theorem ixsK2_eq (s : ByteArray) (k : IntKind) (n : Int) : ixsK2 st d s (k, n) = if 0 ≤ n then (s[n.toNat]?).map (byteK st d) else none := rfl
theorem byteK_eq (b : UInt8) : byteK st d b = st.put d (.d (.v (.int .u8 b.toNat))) := rfl
def loadK2 (st : St) (d : Option Nat) (n : Option Nat) (cs : List X) : Option St := (loadV n cs).map (st.put d)
def loadK (st : St) (d : Option Nat) (n : Option Nat) (a : X) : Option St := (loadL st.heap (n.getD 1) a).bind (loadK2 st d n)
theorem opS_load (n : Option Nat) (x : O) : opS C st d id (.load n x) = (rdO st x).bind (loadK st d n) := rfl
theorem loadK_eq (n : Option Nat) (a : X) : loadK st d n a = (loadL st.heap (n.getD 1) a).bind (loadK2 st d n) := rfl
theorem loadK2_eq (n : Option Nat) (cs : List X) : loadK2 st d n cs = (loadV n cs).map (st.put d) := rfl
/-- A store, in steps. -/
def storE (st : St) (id : Id) (q : Path) (j i n : Nat) (el cs : List D) (h : Heap) : St := { st with heap := h, env := if plainL ((el.drop i).take n) && plainL cs then st.env else purge id q j i n st.env }
theorem storE_eq (id : Id) (q : Path) (j i n : Nat) (el cs : List D) (h : Heap) : storE st id q j i n el cs h = { st with heap := h, env := if plainL ((el.drop i).take n) && plainL cs then st.env else purge id q j i n st.env } := rfl
def storD (st : St) (id : Id) (q : Path) (j i n : Nat) (cs : List D) (h : Heap) (r : Nat × List (List D)) (el : List D) : Option St := if i + n ≤ el.length then (h.put id q (.s r.1 (r.2.set j (setCells el i cs)))).map (storE st id q j i n el cs) else none
theorem storD_eq (id : Id) (q : Path) (j i n : Nat) (cs : List D) (h : Heap) (r : Nat × List (List D)) (el : List D) : storD st id q j i n cs h r el = if i + n ≤ el.length then (h.put id q (.s r.1 (r.2.set j (setCells el i cs)))).map (storE st id q j i n el cs) else none := rfl
def storC (st : St) (id : Id) (q : Path) (j i n : Nat) (cs : List D) (h : Heap) (r : Nat × List (List D)) : Option St := (r.2[j]?).bind (storD st id q j i n cs h r)
theorem storC_eq (id : Id) (q : Path) (j i n : Nat) (cs : List D) (h : Heap) (m : Nat) (els : List (List D)) : storC st id q j i n cs h (m, els) = (els[j]?).bind (storD st id q j i n cs h (m, els)) := rfl
def storB (st : St) (id : Id) (q : Path) (j i n : Nat) (b : List D × Heap) : Option St := if b.1.length = n then (b.2.row id q).bind (storC st id q j i n b.1 b.2) else none
theorem storB_eq (id : Id) (q : Path) (j i n : Nat) (cs : List D) (h : Heap) : storB st id q j i n (cs, h) = if cs.length = n then (h.row id q).bind (storC st id q j i n cs h) else none := rfl
def storL (st : St) (n : Nat) (a : X) (cs : List X) : Option St := match a with
  | .ptr id q j i => (takeL st.heap cs).bind (storB st id q j i n)
  | _ => none
theorem storeL_eq (n : Nat) (a : X) (cs : List X) : storeL st n a cs = storL st n a cs := by
  cases a <;> rfl
theorem storL_eq (n : Nat) (id : Id) (q : Path) (j i : Nat) (cs : List X) : storL st n (.ptr id q j i) cs = (takeL st.heap cs).bind (storB st id q j i n) := rfl
def loseK (d : Option Nat) (s : St) : St := s.lose d
theorem loseK_eq (s : St) : loseK d s = s.lose d := rfl
def storeK2 (st : St) (d : Option Nat) (n : Nat) (x : O) (a b : X) : Option St := (if 10000 ≤ n then storeV st (n - 10000) x a b else storL st n a b.cells).map (loseK d)
def storeK (st : St) (d : Option Nat) (n : Nat) (x y : O) (a : X) : Option St := (rdO st y).bind (storeK2 st d n x a)
theorem opS_store (n : Nat) (x y : O) : opS C st d id (.store n x y) = (rdO st x).bind (storeK st d n x y) := by
  simp only [opS, storeL_eq]
  rfl
theorem storeK_eq (n : Nat) (x y : O) (a : X) : storeK st d n x y a = (rdO st y).bind (storeK2 st d n x a) := rfl
theorem storeK2_eq (n : Nat) (x : O) (a b : X) : storeK2 st d n x a b = (if 10000 ≤ n then storeV st (n - 10000) x a b else storL st n a b.cells).map (loseK d) := rfl
theorem storeV_eq (n t : Nat) (i : Id) (cs : List X) : storeV st n (.t t) (.ptr i [] 0 0) (.agg cs) = if st.fr = 0 ∧ cs.length = n then storeVd st n t i cs (st.heap i) else none := rfl
theorem storeVd_eq (n t : Nat) (i : Id) (cs : List X) (sz : Nat) (el : List D) : storeVd st n t i cs (some (.s sz [el])) = if el.length = n then some { env := upd st.env t (some (.vp cs)), heap := upd st.heap i none, fr := st.fr, next := st.next } else none := rfl
def boxK2 (st : St) (d : Option Nat) (id n : Nat) (b : List D × Heap) : Option St := if b.1.length = n then some ((st.with (upd b.2 (st.fr, id) (some (.s n [b.1])))).put d (.ptr (st.fr, id) [] 0 0)) else none
def boxK (st : St) (d : Option Nat) (id n : Nat) (a : X) : Option St := (takeL st.heap a.cells).bind (boxK2 st d id n)
theorem opS_box (n : Nat) (x : O) : opS C st d id (.box n x) = (rdO st x).bind (boxK st d id n) := rfl
theorem boxK_eq (n : Nat) (a : X) : boxK st d id n a = (takeL st.heap a.cells).bind (boxK2 st d id n) := rfl
theorem boxK2_eq (n : Nat) (cs : List D) (h : Heap) : boxK2 st d id n (cs, h) = if cs.length = n then some ((st.with (upd h (st.fr, id) (some (.s n [cs])))).put d (.ptr (st.fr, id) [] 0 0)) else none := rfl
def vboxK2 (st : St) (d : Option Nat) (n : Nat) (cs : List X) : Option St := if cs.length = n then some (st.put d (.vp cs)) else none
def vboxK (st : St) (d : Option Nat) (n : Nat) (a : X) : Option St := (a.cellsV).bind (vboxK2 st d n)
theorem opS_vbox (n : Nat) (x : O) : opS C st d id (.vbox n x) = (rdO st x).bind (vboxK st d n) := rfl
theorem vboxK_eq (n : Nat) (a : X) : vboxK st d n a = (a.cellsV).bind (vboxK2 st d n) := rfl
theorem vboxK2_eq (n : Nat) (cs : List X) : vboxK2 st d n cs = if cs.length = n then some (st.put d (.vp cs)) else none := rfl
def mmK2 (st : St) (d : Option Nat) (mx : Bool) (m n : IntKind × Int) : Option St := if m.1 = n.1 then some (st.put d (.d (.v (.int m.1 (if mx then (if m.2 < n.2 then n.2 else m.2) else (if n.2 < m.2 then n.2 else m.2)))))) else none
def mmK (st : St) (d : Option Nat) (mx : Bool) (y : O) (m : IntKind × Int) : Option St := (rdI st y).bind (mmK2 st d mx m)
theorem opS_mm (mx : Bool) (x y : O) : opS C st d id (.mm mx x y) = (rdI st x).bind (mmK st d mx y) := rfl
theorem mmK_eq (mx : Bool) (y : O) (m : IntKind × Int) : mmK st d mx y m = (rdI st y).bind (mmK2 st d mx m) := rfl
theorem mmK2_t (k : IntKind) (m n : Int) : mmK2 st d true (k, m) (k, n) = some (putI st d k (if m < n then n else m)) := by unfold mmK2; rw [if_pos rfl]; rfl
theorem mmK2_f (k : IntKind) (m n : Int) : mmK2 st d false (k, m) (k, n) = some (putI st d k (if n < m then n else m)) := by unfold mmK2; rw [if_pos rfl]; rfl
def eqaK4 (st : St) (d : Option Nat) (ng : Bool) (k : Nat) (cs : List X) (z : Bool) : Option St := if cs.length = k then some (st.put d (.d (.v (.bool (if ng then !z else z))))) else none
theorem eqaK4_t (k : Nat) (cs : List X) (z : Bool) : eqaK4 st d true k cs z = if cs.length = k then some (putB st d !z) else none := rfl
theorem eqaK4_f (k : Nat) (cs : List X) (z : Bool) : eqaK4 st d false k cs z = if cs.length = k then some (putB st d z) else none := rfl
def eqaK3 (st : St) (d : Option Nat) (ng : Bool) (k : Nat) (cs ds : List X) : Option St := (eqAgg cs ds).bind (eqaK4 st d ng k cs)
theorem eqaK3_eq (ng : Bool) (k : Nat) (cs ds : List X) : eqaK3 st d ng k cs ds = (eqAgg cs ds).bind (eqaK4 st d ng k cs) := rfl
def eqaK2 (st : St) (d : Option Nat) (ng : Bool) (k : Nat) (b : X) (cs : List X) : Option St := (b.aggOf).bind (eqaK3 st d ng k cs)
theorem eqaK2_eq (ng : Bool) (k : Nat) (b : X) (cs : List X) : eqaK2 st d ng k b cs = (b.aggOf).bind (eqaK3 st d ng k cs) := rfl
def eqaK1 (st : St) (d : Option Nat) (ng : Bool) (k : Nat) (a b : X) : Option St := (a.aggOf).bind (eqaK2 st d ng k b)
theorem eqaK1_eq (ng : Bool) (k : Nat) (a b : X) : eqaK1 st d ng k a b = (a.aggOf).bind (eqaK2 st d ng k b) := rfl
def eqaK (st : St) (d : Option Nat) (ng : Bool) (k : Nat) (y : O) (a : X) : Option St := (rdO st y).bind (eqaK1 st d ng k a)
theorem opS_eqa (ng : Bool) (k : Nat) (x y : O) : opS C st d id (.eqa ng k x y) = (rdO st x).bind (eqaK st d ng k y) := rfl
theorem eqaK_eq (ng : Bool) (k : Nat) (y : O) (a : X) : eqaK st d ng k y a = (rdO st y).bind (eqaK1 st d ng k a) := rfl
theorem aggOf_agg (cs : List X) : X.aggOf (.agg cs) = some cs := rfl
def eqAggK (m n : Int) (b : Bool) : Bool := decide (m = n) && b
theorem eqAggK_eq (m n : Int) (b : Bool) : eqAggK m n b = (decide (m = n) && b) := rfl
theorem eqAgg_nil : eqAgg [] [] = some true := rfl
theorem eqAgg_cons (k : IntKind) (m n : Int) (cs ds : List X) : eqAgg (.d (.v (.int k m)) :: cs) (.d (.v (.int k n)) :: ds) = (eqAgg cs ds).map (eqAggK m n) := by rw [eqAgg, if_pos rfl]; rfl
theorem opS_alloc (zs : List D) : opS C st d id (.alloc zs) = some ((st.with (upd st.heap (st.fr, id) (some (.s zs.length [zs])))).put d (.ptr (st.fr, id) [] 0 0)) := rfl
def aggK (st : St) (d : Option Nat) (cs : List X) : St := st.put d (.agg cs)
theorem opS_build (zs : List D) (ps : List (Nat × Nat × O)) : opS C st d id (.build zs ps) = (fillX st (zs.map .d) ps).map (aggK st d) := rfl
theorem aggK_eq (cs : List X) : aggK st d cs = st.put d (.agg cs) := rfl
def fillK2 (st : St) (cs : List X) (off n : Nat) (ps : List (Nat × Nat × O)) (us : List X) : Option (List X) := if us.length = n ∧ off + n ≤ cs.length then fillX st (setX cs off us) ps else none
def fillK (st : St) (cs : List X) (off n : Nat) (ps : List (Nat × Nat × O)) (x : X) : Option (List X) := (x.cellsV).bind (fillK2 st cs off n ps)
theorem fillX_nil (cs : List X) : fillX st cs [] = some cs := rfl
theorem fillX_cons (cs : List X) (off n : Nat) (o : O) (ps : List (Nat × Nat × O)) : fillX st cs ((off, n, o) :: ps) = (rdO st o).bind (fillK st cs off n ps) := rfl
theorem fillK_eq (cs : List X) (off n : Nat) (ps : List (Nat × Nat × O)) (x : X) : fillK st cs off n ps x = (x.cellsV).bind (fillK2 st cs off n ps) := rfl
theorem fillK2_eq (cs : List X) (off n : Nat) (ps : List (Nat × Nat × O)) (us : List X) : fillK2 st cs off n ps us = if us.length = n ∧ off + n ≤ cs.length then fillX st (setX cs off us) ps else none := rfl
def litK (st : St) (d : Option Nat) (id sz : Nat) (a : List (List D) × Heap) : St := (st.with (upd a.2 (st.fr, id) (some (.s sz a.1)))).put d (.ref (st.fr, id) [])
theorem opS_lit (sz : Nat) (ps : List O) : opS C st d id (.lit sz ps) = (takeEls st sz st.heap ps).map (litK st d id sz) := rfl
theorem litK_eq (sz : Nat) (els : List (List D)) (h : Heap) : litK st d id sz (els, h) = (st.with (upd h (st.fr, id) (some (.s sz els)))).put d (.ref (st.fr, id) []) := rfl
def elsK3 (ds : List D) (b : List (List D) × Heap) : List (List D) × Heap := (ds :: b.1, b.2)
theorem elsK3_eq (ds : List D) (els : List (List D)) (h : Heap) : elsK3 ds (els, h) = (ds :: els, h) := rfl
def elsK2 (st : St) (sz : Nat) (os : List O) (a : List D × Heap) : Option (List (List D) × Heap) := if a.1.length = sz then (takeEls st sz a.2 os).map (elsK3 a.1) else none
theorem elsK2_eq (sz : Nat) (os : List O) (ds : List D) (h : Heap) : elsK2 st sz os (ds, h) = if ds.length = sz then (takeEls st sz h os).map (elsK3 ds) else none := rfl
def elsK (st : St) (sz : Nat) (h : Heap) (os : List O) (x : X) : Option (List (List D) × Heap) := (takeL h x.cells).bind (elsK2 st sz os)
theorem elsK_eq (sz : Nat) (h : Heap) (os : List O) (x : X) : elsK st sz h os x = (takeL h x.cells).bind (elsK2 st sz os) := rfl
theorem takeEls_nil (sz : Nat) (h : Heap) : takeEls st sz h [] = some ([], h) := rfl
theorem takeEls_cons (sz : Nat) (h : Heap) (o : O) (os : List O) : takeEls st sz h (o :: os) = (rdO st o).bind (elsK st sz h os) := rfl
def mkK (st : St) (d : Option Nat) (id sz bytes : Nat) (zs : List D) (m : IntKind × Int) : Option St := if mkOk bytes m.2 ∧ zs.length = sz then some ((st.with (upd st.heap (st.fr, id) (some (.s sz (List.replicate m.2.toNat zs))))).put d (.ref (st.fr, id) [])) else none
theorem opS_mk (sz bytes : Nat) (zs : List D) (n : O) : opS C st d id (.mk sz bytes zs n) = (rdI st n).bind (mkK st d id sz bytes zs) := rfl
theorem mkK_eq (sz bytes : Nat) (zs : List D) (k : IntKind) (n : Int) : mkK st d id sz bytes zs (k, n) = if mkOk bytes n ∧ zs.length = sz then some ((st.with (upd st.heap (st.fr, id) (some (.s sz (List.replicate n.toNat zs))))).put d (.ref (st.fr, id) [])) else none := rfl
def cutrK3 (st : St) (d : Option Nat) (sz : Nat) (els : List (List D)) (l h : Int) : Option St := if 0 ≤ l ∧ l ≤ h ∧ h ≤ (els.length : Int) ∧ els.all (fun el => el.length == sz) = true then some (st.put d (.d (.r ((els.take h.toNat).drop l.toNat)))) else none
def cutrK2 (st : St) (d : Option Nat) (sz : Nat) (els : List (List D)) (hi : Option O) (l : Int) : Option St := (bound st (els.length : Int) hi).bind (cutrK3 st d sz els l)
def cutrK (st : St) (d : Option Nat) (sz : Nat) (lo hi : Option O) : X → Option St
  | .d (.r els) => (bound st 0 lo).bind (cutrK2 st d sz els hi)
  | _ => none
theorem opS_cutr (sz : Nat) (x : O) (lo hi : Option O) : opS C st d id (.cutr sz x lo hi) = (rdO st x).bind (cutrK st d sz lo hi) := by
  simp only [opS]
  congr 1
theorem cutrK_eq (sz : Nat) (lo hi : Option O) (els : List (List D)) : cutrK st d sz lo hi (.d (.r els)) = (bound st 0 lo).bind (cutrK2 st d sz els hi) := rfl
theorem cutrK2_eq (sz : Nat) (els : List (List D)) (hi : Option O) (l : Int) : cutrK2 st d sz els hi l = (bound st (els.length : Int) hi).bind (cutrK3 st d sz els l) := rfl
theorem cutrK3_eq (sz : Nat) (els : List (List D)) (l h : Int) : cutrK3 st d sz els l h = if 0 ≤ l ∧ l ≤ h ∧ h ≤ (els.length : Int) ∧ els.all (fun el => el.length == sz) = true then some (st.put d (.d (.r ((els.take h.toNat).drop l.toNat)))) else none := rfl
def cutSK3 (st : St) (d : Option Nat) (s : ByteArray) (l h : Int) : Option St := if 0 ≤ l ∧ l ≤ h ∧ h ≤ (s.size : Int) then some (st.put d (.d (.v (.string (s.extract l.toNat h.toNat))))) else none
def cutSK2 (st : St) (d : Option Nat) (s : ByteArray) (hi : Option O) (l : Int) : Option St := (bound st (s.size : Int) hi).bind (cutSK3 st d s l)
def cutSK (st : St) (d : Option Nat) (lo hi : Option O) (s : ByteArray) : Option St := (bound st 0 lo).bind (cutSK2 st d s hi)
theorem opS_cutS (x : O) (lo hi : Option O) : opS C st d id (.cutS x lo hi) = (rdS st x).bind (cutSK st d lo hi) := rfl
theorem cutSK_eq (lo hi : Option O) (s : ByteArray) : cutSK st d lo hi s = (bound st 0 lo).bind (cutSK2 st d s hi) := rfl
theorem cutSK2_eq (s : ByteArray) (hi : Option O) (l : Int) : cutSK2 st d s hi l = (bound st (s.size : Int) hi).bind (cutSK3 st d s l) := rfl
theorem cutSK3_eq (s : ByteArray) (l h : Int) : cutSK3 st d s l h = if 0 ≤ l ∧ l ≤ h ∧ h ≤ (s.size : Int) then some (st.put d (.d (.v (.string (s.extract l.toNat h.toNat))))) else none := rfl
def lenK2 (st : St) (d : Option Nat) (n : Nat) : St := st.put d (.d (.v (.int .i64 (n : Int))))
def lenK (st : St) (d : Option Nat) (a : X) : Option St := (lenX st.heap a).map (lenK2 st d)
theorem opS_len (x : O) : opS C st d id (.len x) = (rdO st x).bind (lenK st d) := rfl
theorem lenK_eq (a : X) : lenK st d a = (lenX st.heap a).map (lenK2 st d) := rfl
theorem lenK2_eq (n : Nat) : lenK2 st d n = st.put d (.d (.v (.int .i64 (n : Int)))) := rfl
def slenK (st : St) (d : Option Nat) (s : ByteArray) : St := st.put d (.d (.v (.int .i64 (s.size : Int))))
theorem opS_slen (x : O) : opS C st d id (.slen x) = (rdS st x).map (slenK st d) := rfl
theorem slenK_eq (s : ByteArray) : slenK st d s = st.put d (.d (.v (.int .i64 (s.size : Int)))) := rfl
def appK4 (st : St) (d : Option Nat) (id sz bytes : Nat) (l : List (List D)) (m : List (List D) × Heap) : Option St := if appOk bytes l.length m.1.length ∧ m.1.all (fun el => el.length == sz) then some ((st.with (upd m.2 (st.fr, id) (some (.s sz (l ++ m.1))))).put d (.ref (st.fr, id) [])) else none
def appK3 (st : St) (d : Option Nat) (id sz bytes : Nat) (b : X) (l : List (List D) × Heap) : Option St := (srcEls l.2 b).bind (appK4 st d id sz bytes l.1)
def appK2 (st : St) (d : Option Nat) (id sz bytes : Nat) (a b : X) : Option St := (baseEls st.heap sz a).bind (appK3 st d id sz bytes b)
def appK (st : St) (d : Option Nat) (id sz bytes : Nat) (y : O) (a : X) : Option St := (rdO st y).bind (appK2 st d id sz bytes a)
theorem opS_app (sz bytes : Nat) (x y : O) : opS C st d id (.app sz bytes x y) = (rdO st x).bind (appK st d id sz bytes y) := rfl
theorem appK_eq (sz bytes : Nat) (y : O) (a : X) : appK st d id sz bytes y a = (rdO st y).bind (appK2 st d id sz bytes a) := rfl
theorem appK2_eq (sz bytes : Nat) (a b : X) : appK2 st d id sz bytes a b = (baseEls st.heap sz a).bind (appK3 st d id sz bytes b) := rfl
theorem appK3_eq (sz bytes : Nat) (b : X) (l : List (List D)) (h : Heap) : appK3 st d id sz bytes b (l, h) = (srcEls h b).bind (appK4 st d id sz bytes l) := rfl
theorem appK4_eq (sz bytes : Nat) (l m : List (List D)) (h : Heap) : appK4 st d id sz bytes l (m, h) = if appOk bytes l.length m.length ∧ m.all (fun el => el.length == sz) then some ((st.with (upd h (st.fr, id) (some (.s sz (l ++ m))))).put d (.ref (st.fr, id) [])) else none := rfl
def fnK (st : St) (d : Option Nat) (f : Nat) (xs : List X) : St := st.put d (if xs.isEmpty then .d (.v (.func (.func f) #[] #[])) else .clo f xs)
theorem opS_fn (f : Nat) (caps : List O) : opS C st d id (.fn f caps) = (rdOs st caps).map (fnK st d f) := rfl
theorem fnK_eq (f : Nat) (xs : List X) : fnK st d f xs = st.put d (if xs.isEmpty then .d (.v (.func (.func f) #[] #[])) else .clo f xs) := rfl
def landK (st : St) (d : Option Nat) (id : Nat) (h : Heap) (x : X) : Option St := landed st d id x h
theorem landK_eq (h : Heap) (x : X) : landK st d id h x = if x.ncells ≤ 32 then some ((st.with (impR h (st.fr, id) x).2).put d (impR h (st.fr, id) x).1) else none := rfl
def callK3 (st : St) (d : Option Nat) (id : Nat) (as : List X) (r : X) : Option St := if roArgs as || r.noR then landed st d id r st.heap else none
def callK2 (C : Cl) (st : St) (d : Option Nat) (id f : Nat) (as bs : List X) : Option St := (C.iso f bs).bind (callK3 st d id as)
def callK (C : Cl) (st : St) (d : Option Nat) (id f : Nat) (as : List X) : Option St := (snaps st.heap as).bind (callK2 C st d id f as)
theorem opS_call (f : Nat) (xs : List O) : opS C st d id (.call f xs) = (rdOs st xs).bind (callK C st d id f) := rfl
theorem callK_eq (f : Nat) (as : List X) : callK C st d id f as = (snaps st.heap as).bind (callK2 C st d id f as) := rfl
theorem callK2_eq (f : Nat) (as bs : List X) : callK2 C st d id f as bs = (C.iso f bs).bind (callK3 st d id as) := rfl
theorem callK3_eq (as : List X) (r : X) : callK3 st d id as r = if roArgs as || r.noR then landK st d id st.heap r else none := rfl
def callrK3 (st : St) (d : Option Nat) (as : List X) (r : X) : Option St := if roArgs as || r.noR then some (st.put d r.frz) else none
def callrK2 (C : Cl) (st : St) (d : Option Nat) (f : Nat) (as bs : List X) : Option St := (C.iso f bs).bind (callrK3 st d as)
def callrK (C : Cl) (st : St) (d : Option Nat) (f : Nat) (as : List X) : Option St := (snaps st.heap as).bind (callrK2 C st d f as)
theorem opS_callr (f : Nat) (xs : List O) : opS C st d id (.callr f xs) = (rdOs st xs).bind (callrK C st d f) := rfl
theorem callrK_eq (f : Nat) (as : List X) : callrK C st d f as = (snaps st.heap as).bind (callrK2 C st d f as) := rfl
theorem callrK2_eq (f : Nat) (as bs : List X) : callrK2 C st d f as bs = (C.iso f bs).bind (callrK3 st d as) := rfl
theorem callrK3_eq (as : List X) (r : X) : callrK3 st d as r = if roArgs as || r.noR then some (st.put d r.frz) else none := rfl
def calliK3 (st : St) (d : Option Nat) (id : Nat) (r : X × Heap) : Option St := landed { st with env := purgeN st.env } d id r.1 r.2
def calliK2 (C : Cl) (st : St) (d : Option Nat) (id : Nat) (g : Nat × List X) (as : List X) : Option St := (C g.1 (as ++ g.2) st.heap (st.fr + 1)).bind (calliK3 st d id)
def calliK1 (C : Cl) (st : St) (d : Option Nat) (id : Nat) (xs : List O) (g : Nat × List X) : Option St := (rdOs st xs).bind (calliK2 C st d id g)
def calliK (C : Cl) (st : St) (d : Option Nat) (id : Nat) (xs : List O) (c : X) : Option St := (calleeX c).bind (calliK1 C st d id xs)
theorem opS_calli (f : O) (xs : List O) : opS C st d id (.calli f xs) = (rdO st f).bind (calliK C st d id xs) := rfl
theorem calliK_eq (xs : List O) (c : X) : calliK C st d id xs c = (calleeX c).bind (calliK1 C st d id xs) := rfl
theorem calliK1_eq (xs : List O) (g : Nat × List X) : calliK1 C st d id xs g = (rdOs st xs).bind (calliK2 C st d id g) := rfl
theorem calliK2_eq (f : Nat) (caps as : List X) : calliK2 C st d id (f, caps) as = (C f (as ++ caps) st.heap (st.fr + 1)).bind (calliK3 st d id) := rfl
theorem calliK3_eq (r : X) (h : Heap) : calliK3 st d id (r, h) = landK { st with env := purgeN st.env } d id h r := rfl
def callbK5 (st : St) (d : Option Nat) (id : Nat) (L : Lent) (r : X) (h2 : Heap) : Option St := landed { st with env := purgeL L st.env } d id r h2
def callbK4 (st : St) (d : Option Nat) (id : Nat) (as : List X) (bs : List Bool) (h : Heap) (L : Lent) (r : X × Heap) : Option St :=
  if (apart L && r.1.noP && (roF as bs || (r.1.noR && noRB r.2 0 L))) = true then (backH h r.2 0 L).bind (callbK5 st d id L r.1) else none
def callbK3 (C : Cl) (st : St) (d : Option Nat) (id f : Nat) (as : List X) (bs : List Bool) (h : Heap) (L : Lent) (ys : List X) : Option St := (C f ys (lentH 0 L) 1).bind (callbK4 st d id as bs h L)
def callbK2 (C : Cl) (st : St) (d : Option Nat) (id f : Nat) (as : List X) (bs : List Bool) (m : List X × Heap × Lent) : Option St := (snapF m.2.1 m.1 bs).bind (callbK3 C st d id f as bs m.2.1 m.2.2)
def callbK (C : Cl) (st : St) (d : Option Nat) (id f : Nat) (bs : List Bool) (as : List X) : Option St := (borA st.heap 0 as bs).bind (callbK2 C st d id f as bs)
theorem opS_callb (f : Nat) (xs : List O) (bs : List Bool) : opS C st d id (.callb f xs bs) = (rdOs st xs).bind (callbK C st d id f bs) := rfl
theorem callbK_eq (f : Nat) (bs : List Bool) (as : List X) : callbK C st d id f bs as = (borA st.heap 0 as bs).bind (callbK2 C st d id f as bs) := rfl
theorem callbK2_eq (f : Nat) (as : List X) (bs : List Bool) (xs : List X) (h : Heap) (L : Lent) : callbK2 C st d id f as bs (xs, h, L) = (snapF h xs bs).bind (callbK3 C st d id f as bs h L) := rfl
theorem callbK3_eq (f : Nat) (as : List X) (bs : List Bool) (h : Heap) (L : Lent) (ys : List X) : callbK3 C st d id f as bs h L ys = (C f ys (lentH 0 L) 1).bind (callbK4 st d id as bs h L) := rfl
theorem callbK4_eq (as : List X) (bs : List Bool) (h : Heap) (L : Lent) (r : X) (hB : Heap) : callbK4 st d id as bs h L (r, hB) = if (apart L && r.noP && (roF as bs || (r.noR && noRB hB 0 L))) = true then (backH h hB 0 L).bind (callbK5 st d id L r) else none := rfl
theorem callbK5_eq (L : Lent) (r : X) (h2 : Heap) : callbK5 st d id L r h2 = landK { st with env := purgeL L st.env } d id h2 r := rfl
def extK (st : St) (d : Option Nat) (i : Nat) : X → Option St
  | .tup cs => (cs[i]?).map (st.put d)
  | _ => none
theorem opS_ext (x : O) (i : Nat) : opS C st d id (.ext x i) = (rdO st x).bind (extK st d i) := by
  simp only [opS]
  congr 1
theorem extK_eq (i : Nat) (cs : List X) : extK st d i (.tup cs) = (cs[i]?).map (st.put d) := rfl
def nckK (st : St) (d : Option Nat) (a : X) : Option St := (nonnil a).map (st.put d)
theorem opS_nck (x : O) : opS C st d id (.nck x) = (rdO st x).bind (nckK st d) := rfl
theorem nckK_eq (a : X) : nckK st d a = (nonnil a).map (st.put d) := rfl
end Go.Ev
