/- Lists of values, memory, loads, what is kept: in steps, too. -/
import Derived.Test.YtcoigakalblkgaaEvCases
set_option linter.all false
namespace Go.Ev
def consX (x : X) (xs : List X) : List X := x :: xs
theorem consX_eq (x : X) (xs : List X) : consX x xs = x :: xs := rfl
def consDH (x : D) (a : List D × Heap) : List D × Heap := (x :: a.1, a.2)
theorem consDH_eq (x : D) (xs : List D) (h : Heap) : consDH x (xs, h) = (x :: xs, h) := rfl
def consXH (x : X) (a : List X × Heap) : List X × Heap := (x :: a.1, a.2)
theorem consXH_eq (x : X) (xs : List X) (h : Heap) : consXH x (xs, h) = (x :: xs, h) := rfl
-- reading
theorem rdOs_nil (st : St) : rdOs st [] = some [] := rfl
def rdOsK (st : St) (os : List O) (x : X) : Option (List X) := (rdOs st os).map (consX x)
theorem rdOs_cons (st : St) (o : O) (os : List O) : rdOs st (o :: os) = (rdO st o).bind (rdOsK st os) := rfl
theorem rdOsK_eq (st : St) (os : List O) (x : X) : rdOsK st os x = (rdOs st os).map (consX x) := rfl
-- moving
theorem takeL_nil (h : Heap) : takeL h [] = some ([], h) := rfl
def takeLK (xs : List X) (a : D × Heap) : Option (List D × Heap) := (takeL a.2 xs).map (consDH a.1)
theorem takeL_cons (h : Heap) (x : X) (xs : List X) : takeL h (x :: xs) = (takeX h x).bind (takeLK xs) := rfl
theorem takeLK_eq (xs : List X) (d : D) (h : Heap) : takeLK xs (d, h) = (takeL h xs).map (consDH d) := rfl
theorem finL_nil (fr : Nat) (h : Heap) : finL fr h [] = some ([], h) := rfl
def finLK (fr : Nat) (xs : List X) (a : X × Heap) : Option (List X × Heap) := (finL fr a.2 xs).map (consXH a.1)
theorem finL_cons (fr : Nat) (h : Heap) (x : X) (xs : List X) : finL fr h (x :: xs) = (finC fr h x).bind (finLK fr xs) := rfl
theorem finLK_eq (fr : Nat) (xs : List X) (d : X) (h : Heap) : finLK fr xs (d, h) = (finL fr h xs).map (consXH d) := rfl
theorem fins_nil (fr : Nat) (h : Heap) : fins fr h [] = some ([], h) := rfl
def finsK (fr : Nat) (xs : List X) (a : X × Heap) : Option (List X × Heap) := (fins fr a.2 xs).map (consXH a.1)
theorem fins_cons (fr : Nat) (h : Heap) (x : X) (xs : List X) : fins fr h (x :: xs) = (finV fr h x).bind (finsK fr xs) := rfl
theorem finsK_eq (fr : Nat) (xs : List X) (d : X) (h : Heap) : finsK fr xs (d, h) = (fins fr h xs).map (consXH d) := rfl
theorem snapL_nil (h : Heap) : snapL h [] = some [] := rfl
def snapLK (h : Heap) (xs : List X) (y : X) : Option (List X) := (snapL h xs).map (consX y)
theorem snapL_cons (h : Heap) (x : X) (xs : List X) : snapL h (x :: xs) = (snapC h x).bind (snapLK h xs) := rfl
theorem snapLK_eq (h : Heap) (xs : List X) (y : X) : snapLK h xs y = (snapL h xs).map (consX y) := rfl
theorem snaps_nil (h : Heap) : snaps h [] = some [] := rfl
def snapsK (h : Heap) (xs : List X) (y : X) : Option (List X) := (snaps h xs).map (consX y)
theorem snaps_cons (h : Heap) (x : X) (xs : List X) : snaps h (x :: xs) = (snap h x).bind (snapsK h xs) := rfl
theorem snapsK_eq (h : Heap) (xs : List X) (y : X) : snapsK h xs y = (snaps h xs).map (consX y) := rfl
def snapFK (h : Heap) (xs : List X) (bs : List Bool) (y : X) : Option (List X) := (snapF h xs bs).map (consX y)
theorem snapF_nil (h : Heap) (bs : List Bool) : snapF h [] bs = some [] := by unfold snapF; rfl
theorem snapF_t (h : Heap) (x : X) (xs : List X) (bs : List Bool) : snapF h (x :: xs) (true :: bs) = (snapF h xs bs).map (consX x) := rfl
theorem snapF_f (h : Heap) (x : X) (xs : List X) (bs : List Bool) : snapF h (x :: xs) (false :: bs) = (snap h x).bind (snapFK h xs bs) := rfl
theorem snapFK_eq (h : Heap) (xs : List X) (bs : List Bool) (y : X) : snapFK h xs bs y = (snapF h xs bs).map (consX y) := rfl
def borLK2 (x : X) (L : Lent) (b : List X × Heap × Lent) : List X × Heap × Lent := (x :: b.1, b.2.1, L ++ b.2.2)
theorem borLK2_eq (x : X) (L : Lent) (xs : List X) (h : Heap) (M : Lent) : borLK2 x L (xs, h, M) = (x :: xs, h, L ++ M) := rfl
def borLK (k : Nat) (xs : List X) (a : X × Heap × Lent) : Option (List X × Heap × Lent) := (borL a.2.1 (k + a.2.2.length) xs).map (borLK2 a.1 a.2.2)
theorem borL_nil (h : Heap) (k : Nat) : borL h k [] = some ([], h, []) := rfl
theorem borL_cons (h : Heap) (k : Nat) (x : X) (xs : List X) : borL h k (x :: xs) = (borC h k x).bind (borLK k xs) := rfl
theorem borLK_eq (k : Nat) (xs : List X) (y : X) (h : Heap) (L : Lent) : borLK k xs (y, h, L) = (borL h (k + L.length) xs).map (borLK2 y L) := rfl
def borAK (k : Nat) (xs : List X) (bs : List Bool) (a : X × Heap × Lent) : Option (List X × Heap × Lent) := (borA a.2.1 (k + a.2.2.length) xs bs).map (borLK2 a.1 a.2.2)
def borAK0 (x : X) (c : List X × Heap × Lent) : List X × Heap × Lent := (x :: c.1, c.2.1, c.2.2)
theorem borAK0_eq (x : X) (xs : List X) (h : Heap) (L : Lent) : borAK0 x (xs, h, L) = (x :: xs, h, L) := rfl
theorem borA_nil (h : Heap) (k : Nat) (bs : List Bool) : borA h k [] bs = some ([], h, []) := by unfold borA; rfl
theorem borA_t (h : Heap) (k : Nat) (x : X) (xs : List X) (bs : List Bool) : borA h k (x :: xs) (true :: bs) = (borV h k x).bind (borAK k xs bs) := rfl
theorem borA_f (h : Heap) (k : Nat) (x : X) (xs : List X) (bs : List Bool) : borA h k (x :: xs) (false :: bs) = (borA h k xs bs).map (borAK0 x) := rfl
theorem borAK_eq (k : Nat) (xs : List X) (bs : List Bool) (y : X) (h : Heap) (L : Lent) : borAK k xs bs (y, h, L) = (borA h (k + L.length) xs bs).map (borLK2 y L) := rfl
-- memory
theorem nav_nil (d : D) : D.nav d [] = some d := by unfold D.nav; rfl
def navB (p : Path) (c : D) : Option D := c.nav p
theorem navB_eq (p : Path) (c : D) : navB p c = c.nav p := rfl
def navA (i : Nat) (p : Path) (el : List D) : Option D := (el[i]?).bind (navB p)
theorem navA_eq (i : Nat) (p : Path) (el : List D) : navA i p el = (el[i]?).bind (navB p) := rfl
theorem nav_s (sz : Nat) (els : List (List D)) (j i : Nat) (p : Path) : D.nav (.s sz els) ((j, i) :: p) = (els[j]?).bind (navA i p) := by rw [D.nav]; rfl
theorem hnav_eq (h : Heap) (id : Id) (p : Path) : h.nav id p = (h id).bind (navB p) := rfl
theorem hrow_eq (h : Heap) (id : Id) (p : Path) : h.row id p = (h.nav id p).bind D.rowOf := rfl
def putCK (sz : Nat) (els : List (List D)) (j i : Nat) (el : List D) (c : D) : D := .s sz (els.set j (el.set i c))
theorem putCK_eq (sz : Nat) (els : List (List D)) (j i : Nat) (el : List D) (c : D) : putCK sz els j i el c = .s sz (els.set j (el.set i c)) := rfl
def putBK (sz : Nat) (els : List (List D)) (j i : Nat) (p : Path) (x : D) (el : List D) (c : D) : Option D := (c.put p x).map (putCK sz els j i el)
theorem putBK_eq (sz : Nat) (els : List (List D)) (j i : Nat) (p : Path) (x : D) (el : List D) (c : D) : putBK sz els j i p x el c = (c.put p x).map (putCK sz els j i el) := rfl
def putAK (sz : Nat) (els : List (List D)) (j i : Nat) (p : Path) (x : D) (el : List D) : Option D := (el[i]?).bind (putBK sz els j i p x el)
theorem putAK_eq (sz : Nat) (els : List (List D)) (j i : Nat) (p : Path) (x : D) (el : List D) : putAK sz els j i p x el = (el[i]?).bind (putBK sz els j i p x el) := rfl
theorem put_nil (d x : D) : D.put d [] x = some x := by unfold D.put; rfl
theorem put_s (sz : Nat) (els : List (List D)) (j i : Nat) (p : Path) (x : D) : D.put (.s sz els) ((j, i) :: p) x = (els[j]?).bind (putAK sz els j i p x) := by rw [D.put]; rfl
def hputK2 (h : Heap) (id : Id) (d : D) : Heap := upd h id (some d)
theorem hputK2_eq (h : Heap) (id : Id) (d : D) : hputK2 h id d = upd h id (some d) := rfl
def hputK (h : Heap) (id : Id) (p : Path) (x d : D) : Option Heap := (d.put p x).map (hputK2 h id)
theorem hputK_eq (h : Heap) (id : Id) (p : Path) (x d : D) : hputK h id p x d = (d.put p x).map (hputK2 h id) := rfl
theorem hput_eq (h : Heap) (id : Id) (p : Path) (x : D) : h.put id p x = (h id).bind (hputK h id p x) := rfl
def take0 (h : Heap) (id : Id) (r : Nat × List (List D)) : D × Heap := (.s r.1 r.2, upd h id none)
theorem take0_eq (h : Heap) (id : Id) (sz : Nat) (els : List (List D)) : take0 h id (sz, els) = (.s sz els, upd h id none) := rfl
theorem htake_nil (h : Heap) (id : Id) : h.take id [] = (h.row id []).map (take0 h id) := rfl
def take2 (sz : Nat) (els : List (List D)) (h : Heap) : D × Heap := (.s sz els, h)
theorem take2_eq (sz : Nat) (els : List (List D)) (h : Heap) : take2 sz els h = (.s sz els, h) := rfl
def take1 (h : Heap) (id : Id) (p : Path) (r : Nat × List (List D)) : Option (D × Heap) := (h.put id p .u).map (take2 r.1 r.2)
theorem take1_eq (h : Heap) (id : Id) (p : Path) (sz : Nat) (els : List (List D)) : take1 h id p (sz, els) = (h.put id p .u).map (take2 sz els) := rfl
theorem htake_cons (h : Heap) (id : Id) (c : Nat × Nat) (p : Path) : h.take id (c :: p) = (h.row id (c :: p)).bind (take1 h id (c :: p)) := rfl
theorem putb_nil (h : Heap) (id : Id) (x : D) : h.putb id [] x = some (upd h id (some x)) := rfl
theorem putb_cons (h : Heap) (id : Id) (c : Nat × Nat) (p : Path) (x : D) : h.putb id (c :: p) x = h.put id (c :: p) x := rfl
-- loads
theorem own_v (id : Id) (p : Path) (x : Value) : D.own id p (.v x) = some (.d (.v x)) := rfl
theorem own_s (id : Id) (p : Path) (sz : Nat) (e : List (List D)) : D.own id p (.s sz e) = some (.ref id p) := rfl
theorem own_r (id : Id) (p : Path) (e : List (List D)) : D.own id p (.r e) = some (.d (.r e)) := rfl
theorem own_u (id : Id) (p : Path) : D.own id p .u = none := rfl
theorem ownL_nil (id : Id) (q : Path) (j i : Nat) : ownL id q j i [] = some [] := by unfold ownL; rfl
def ownLK (id : Id) (q : Path) (j i : Nat) (cs : List D) (x : X) : Option (List X) := (ownL id q j (i + 1) cs).map (consX x)
theorem ownLK_eq (id : Id) (q : Path) (j i : Nat) (cs : List D) (x : X) : ownLK id q j i cs x = (ownL id q j (i + 1) cs).map (consX x) := rfl
theorem ownL_cons (id : Id) (q : Path) (j i : Nat) (c : D) (cs : List D) : ownL id q j i (c :: cs) = (c.own id (q ++ [(j, i)])).bind (ownLK id q j i cs) := rfl
theorem ro_v (x : Value) : D.ro (.v x) = some (.d (.v x)) := rfl
theorem ro_s (sz : Nat) (e : List (List D)) : D.ro (.s sz e) = some (.d (.r e)) := rfl
theorem ro_r (e : List (List D)) : D.ro (.r e) = some (.d (.r e)) := rfl
theorem ro_u : D.ro .u = none := rfl
theorem roL_nil : roL [] = some [] := rfl
def roLK (cs : List D) (x : X) : Option (List X) := (roL cs).map (consX x)
theorem roLK_eq (cs : List D) (x : X) : roLK cs x = (roL cs).map (consX x) := rfl
theorem roL_cons (c : D) (cs : List D) : roL (c :: cs) = (c.ro).bind (roLK cs) := rfl
theorem loadL_rop (h : Heap) (n : Nat) (cs : List D) : loadL h n (.rop cs) = if n ≤ cs.length then roL (cs.take n) else none := rfl
theorem loadL_vp (h : Heap) (n : Nat) (cs : List X) : loadL h n (.vp cs) = if n ≤ cs.length then some (cs.take n) else none := rfl
def ldB (id : Id) (q : Path) (j i n : Nat) (el : List D) : Option (List X) := if i + n ≤ el.length then ownL id q j i ((el.drop i).take n) else none
theorem ldB_eq (id : Id) (q : Path) (j i n : Nat) (el : List D) : ldB id q j i n el = if i + n ≤ el.length then ownL id q j i ((el.drop i).take n) else none := rfl
def ldA (id : Id) (q : Path) (j i n : Nat) (r : Nat × List (List D)) : Option (List X) := (r.2[j]?).bind (ldB id q j i n)
theorem ldA_eq (id : Id) (q : Path) (j i n sz : Nat) (els : List (List D)) : ldA id q j i n (sz, els) = (els[j]?).bind (ldB id q j i n) := rfl
theorem loadL_ptr (h : Heap) (n : Nat) (id : Id) (q : Path) (j i : Nat) : loadL h n (.ptr id q j i) = (h.row id q).bind (ldA id q j i n) := rfl
theorem faddrX_ptr (off : Nat) (id : Id) (q : Path) (j i : Nat) : faddrX off (.ptr id q j i) = some (.ptr id q j (i + off)) := rfl
theorem faddrX_rop (off : Nat) (cs : List D) : faddrX off (.rop cs) = some (.rop (cs.drop off)) := rfl
theorem faddrX_vp (off : Nat) (cs : List X) : faddrX off (.vp cs) = some (.vp (cs.drop off)) := rfl
def ixB (sz : Nat) (el : List D) : Option X := if el.length = sz then some (.rop el) else none
theorem ixB_eq (sz : Nat) (el : List D) : ixB sz el = if el.length = sz then some (.rop el) else none := rfl
theorem ixaX_r (h : Heap) (sz : Nat) (n : Int) (els : List (List D)) : ixaX h sz n (.d (.r els)) = if 0 ≤ n ∧ n < (els.length : Int) then (els[n.toNat]?).bind (ixB sz) else none := rfl
def ixC (id : Id) (p : Path) (sz : Nat) (n : Int) (r : Nat × List (List D)) : Option X := if 0 ≤ n ∧ n < (r.2.length : Int) ∧ r.1 = sz then some (.ptr id p n.toNat 0) else none
theorem ixC_eq (id : Id) (p : Path) (sz : Nat) (n : Int) (m : Nat) (els : List (List D)) : ixC id p sz n (m, els) = if 0 ≤ n ∧ n < (els.length : Int) ∧ m = sz then some (.ptr id p n.toNat 0) else none := rfl
theorem ixaX_ref (h : Heap) (sz : Nat) (n : Int) (id : Id) (p : Path) : ixaX h sz n (.ref id p) = (h.row id p).bind (ixC id p sz n) := rfl
theorem lenX_r (h : Heap) (els : List (List D)) : lenX h (.d (.r els)) = some els.length := rfl
theorem lenX_n (h : Heap) (sz : Nat) : lenX h (.d (.s sz [])) = some 0 := rfl
def lenR (r : Nat × List (List D)) : Nat := r.2.length
theorem lenR_eq (sz : Nat) (els : List (List D)) : lenR (sz, els) = els.length := rfl
theorem lenX_ref (h : Heap) (id : Id) (p : Path) : lenX h (.ref id p) = (h.row id p).map lenR := rfl
theorem nonnil_ptr (id : Id) (q : Path) (j i : Nat) : nonnil (.ptr id q j i) = some (.ptr id q j i) := rfl
theorem nonnil_rop (cs : List D) : nonnil (.rop cs) = some (.rop cs) := rfl
theorem nonnil_vp (cs : List X) : nonnil (.vp cs) = some (.vp cs) := rfl
-- appends
def idH (h : Heap) (els : List (List D)) : List (List D) × Heap := (els, h)
def srcR (a : D × Heap) : Option (List (List D) × Heap) := (a.1.rowOf).map fun r => (r.2, a.2)
theorem srcR_eq (sz : Nat) (els : List (List D)) (h : Heap) : srcR (.s sz els, h) = some (els, h) := rfl
theorem srcEls_n (h : Heap) (sz : Nat) : srcEls h (.d (.s sz [])) = some ([], h) := rfl
theorem srcEls_r (h : Heap) (els : List (List D)) : srcEls h (.d (.r els)) = some (els.map fun el => el.map D.toR, h) := rfl
theorem srcEls_ref (h : Heap) (id : Id) (p : Path) : srcEls h (.ref id p) = (h.take id p).bind srcR := rfl
def baseR (sz : Nat) (a : D × Heap) : Option (List (List D) × Heap) := (a.1.rowOf).bind fun r => if r.1 = sz then some (r.2, a.2) else none
theorem baseR_eq (sz m : Nat) (els : List (List D)) (h : Heap) : baseR sz (.s m els, h) = if m = sz then some (els, h) else none := rfl
theorem baseEls_n (h : Heap) (sz m : Nat) : baseEls h sz (.d (.s m [])) = some ([], h) := rfl
theorem baseEls_ref (h : Heap) (sz : Nat) (id : Id) (p : Path) : baseEls h sz (.ref id p) = (h.take id p).bind (baseR sz) := rfl
-- results
theorem rdRes_nil (st : St) : rdRes st [] = some [] := by unfold rdRes; rfl
def rdResK (st : St) (rs : List SRes) (x : X) : Option (List X) := (rdRes st rs).map (consX x)
theorem rdResK_eq (st : St) (rs : List SRes) (x : X) : rdResK st rs x = (rdRes st rs).map (consX x) := rfl
theorem rdRes_t (st : St) (n : Nat) (rs : List SRes) : rdRes st (.t n :: rs) = (st.env n).bind (rdResK st rs) := rfl
def rdResC (st : St) (k : Option Nat) (a : X) : Option X := (loadL st.heap (k.getD 1) a).bind (loadV k)
theorem rdResC_eq (st : St) (k : Option Nat) (a : X) : rdResC st k a = (loadL st.heap (k.getD 1) a).bind (loadV k) := rfl
theorem rdRes_c (st : St) (n : Nat) (k : Option Nat) (rs : List SRes) : rdRes st (.c n k :: rs) = ((st.env n).bind (rdResC st k)).bind (rdResK st rs) := rfl
def packK (a : List X × Heap) : X := packed a.1
theorem packK_1 (x : X) (h : Heap) : packK ([x], h) = x := rfl
theorem packK_0 (h : Heap) : packK ([], h) = .tup [] := rfl
theorem packK_2 (x y : X) (xs : List X) (h : Heap) : packK (x :: y :: xs, h) = .tup (x :: y :: xs) := rfl
def finXK (s : St) (xs : List X) : Option X := (fins 0 s.heap xs).map packK
theorem finXK_eq (s : St) (xs : List X) : finXK s xs = (fins 0 s.heap xs).map packK := rfl
def packH (fr : Nat) (a : List X × Heap) : X × Heap := (packed a.1, dropF fr a.2)
theorem packH_1 (fr : Nat) (x : X) (h : Heap) : packH fr ([x], h) = (x, dropF fr h) := rfl
theorem packH_0 (fr : Nat) (h : Heap) : packH fr ([], h) = (.tup [], dropF fr h) := rfl
theorem packH_2 (fr : Nat) (x y : X) (xs : List X) (h : Heap) : packH fr (x :: y :: xs, h) = (.tup (x :: y :: xs), dropF fr h) := rfl
def finiK (s : St) (fr : Nat) (xs : List X) : Option (X × Heap) := (fins fr s.heap xs).map (packH fr)
theorem finiK_eq (s : St) (fr : Nat) (xs : List X) : finiK s fr xs = (fins fr s.heap xs).map (packH fr) := rfl
-- what is kept
def kmK2 (st : St) (m : List (Nat × Nat)) (ts : List Nat) (x : X) : Bool → List (Nat × Nat)
  | true => keepM st (addN m (x.offs st.fr)) ts
  | false => keepM st m ts
theorem kmK2_t (st : St) (m : List (Nat × Nat)) (ts : List Nat) (x : X) : kmK2 st m ts x true = keepM st (addN m (x.offs st.fr)) ts := rfl
theorem kmK2_f (st : St) (m : List (Nat × Nat)) (ts : List Nat) (x : X) : kmK2 st m ts x false = keepM st m ts := rfl
def kmK (st : St) (m : List (Nat × Nat)) (ts : List Nat) : Option X → List (Nat × Nat)
  | some x => kmK2 st m ts x x.keeps
  | none => keepM st m ts
theorem kmK_some (st : St) (m : List (Nat × Nat)) (ts : List Nat) (x : X) : kmK st m ts (some x) = kmK2 st m ts x x.keeps := rfl
theorem kmK_none (st : St) (m : List (Nat × Nat)) (ts : List Nat) : kmK st m ts none = keepM st m ts := rfl
theorem keepM_nil (st : St) (m : List (Nat × Nat)) : keepM st m [] = m := by unfold keepM; rfl
theorem keepM_cons (st : St) (m : List (Nat × Nat)) (t : Nat) (ts : List Nat) : keepM st m (t :: ts) = kmK st m ts (st.env t) := by
  rw [keepM]
  cases st.env t with
  | none => rfl
  | some x => simp only [kmK_some]; cases x.keeps <;> rfl
def keK2 (st : St) (m : List (Nat × Nat)) (t : Nat) (ts : List Nat) (x : X) : Bool → Env
  | true => upd (keepE st m ts) t (some (x.ren (kid st.fr m)))
  | false => keepE st m ts
theorem keK2_t (st : St) (m : List (Nat × Nat)) (t : Nat) (ts : List Nat) (x : X) : keK2 st m t ts x true = upd (keepE st m ts) t (some (x.ren (kid st.fr m))) := rfl
theorem keK2_f (st : St) (m : List (Nat × Nat)) (t : Nat) (ts : List Nat) (x : X) : keK2 st m t ts x false = keepE st m ts := rfl
def keK (st : St) (m : List (Nat × Nat)) (t : Nat) (ts : List Nat) : Option X → Env
  | some x => keK2 st m t ts x x.keeps
  | none => keepE st m ts
theorem keK_some (st : St) (m : List (Nat × Nat)) (t : Nat) (ts : List Nat) (x : X) : keK st m t ts (some x) = keK2 st m t ts x x.keeps := rfl
theorem keK_none (st : St) (m : List (Nat × Nat)) (t : Nat) (ts : List Nat) : keK st m t ts none = keepE st m ts := rfl
theorem keepE_nil (st : St) (m : List (Nat × Nat)) : keepE st m [] = emp := by unfold keepE; rfl
theorem keepE_cons (st : St) (m : List (Nat × Nat)) (t : Nat) (ts : List Nat) : keepE st m (t :: ts) = keK st m t ts (st.env t) := by
  rw [keepE]
  cases st.env t with
  | none => rfl
  | some x => simp only [keK_some]; cases x.keeps <;> rfl
def ksK (st : St) (L : List Nat) (m : List (Nat × Nat)) : St := { env := keepE st m L, heap := keepH st.fr st.heap m, fr := st.fr, next := m.length }
theorem ksK_eq (st : St) (L : List Nat) (m : List (Nat × Nat)) : ksK st L m = { env := keepE st m L, heap := keepH st.fr st.heap m, fr := st.fr, next := m.length } := rfl
theorem keepO_eq (L : List Nat) (st : St) : keepO L st = ksK st L (keepM st [] L) := rfl
theorem keepS_nil (st : St) : keepS [] st = keepO [] st := rfl
theorem keepS_cons (t : Nat) (L : List Nat) (st : St) : keepS (t :: L) st = if 10000 ≤ t then keepO L (iceS (t - 10000) st) else keepO (t :: L) st := rfl
theorem iceS_eq (t : Nat) (st : St) : iceS t st = if st.fr = 0 then iceE st (st.env t) else st := rfl
theorem iceE_ptr (st : St) (a b j i : Nat) : iceE st (some (.ptr (a, b) [] j i)) = if a = 0 then iceH (a, b) st (st.heap (a, b)) else st := rfl
theorem iceH_s (id : Id) (st : St) (sz : Nat) (els : List (List D)) : iceH id st (some (.s sz els)) = { env := st.env, heap := upd st.heap id (some (.s sz (els.map fun el => el.map D.ice))), fr := st.fr, next := st.next } := rfl
theorem ice_v (x : Value) : D.ice (.v x) = .v x := rfl
theorem ice_r (els : List (List D)) : D.ice (.r els) = .r els := rfl
theorem ice_s (sz : Nat) (els : List (List D)) : D.ice (.s sz els) = .r (fzs els) := rfl
-- rows that come
def impK2 (x : X) (b : List X × Heap) : List X × Heap := (x :: b.1, b.2)
theorem impK2_eq (x : X) (xs : List X) (h : Heap) : impK2 x (xs, h) = (x :: xs, h) := rfl
def impLK (id : Id) (xs : List X) (a : X × Heap) : List X × Heap := impK2 a.1 (impL a.2 (id.1, id.2 + 1) xs)
theorem impLK_eq (a b : Nat) (xs : List X) (y : X) (h : Heap) : impLK (a, b) xs (y, h) = impK2 y (impL h (a, b + 1) xs) := rfl
theorem impL_nil (h : Heap) (id : Id) : impL h id [] = ([], h) := rfl
theorem impL_cons (h : Heap) (id : Id) (x : X) (xs : List X) : impL h id (x :: xs) = impLK id xs (impC h id x) := rfl
def impTK (id : Id) (n : Nat) (xs : List X) (a : X × Heap) : List X × Heap := impK2 a.1 (impT a.2 (id.1, id.2 + n) xs)
theorem impTK_eq (a b n : Nat) (xs : List X) (y : X) (h : Heap) : impTK (a, b) n xs (y, h) = impK2 y (impT h (a, b + n) xs) := rfl
theorem impT_nil (h : Heap) (id : Id) : impT h id [] = ([], h) := rfl
theorem impT_cons (h : Heap) (id : Id) (x : X) (xs : List X) : impT h id (x :: xs) = impTK id x.cells.length xs (impV h id x) := rfl
end Go.Ev
