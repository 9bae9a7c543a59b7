import Derived.Test.YtonoomibdlhonaaEvPIns
set_option linter.all false
namespace Go.Ev.G
set_option maxRecDepth 4000
set_option maxHeartbeats 2000000
def opNames : List ByteArray := [⟨#[108, 105]⟩, ⟨#[109, 111, 118]⟩, ⟨#[97, 100, 100]⟩, ⟨#[115, 117, 98]⟩, ⟨#[109, 117, 108]⟩, ⟨#[108, 116]⟩, ⟨#[101, 113]⟩, ⟨#[108, 100]⟩, ⟨#[115, 116]⟩, ⟨#[99, 97, 115]⟩, ⟨#[106, 109, 112]⟩, ⟨#[106, 122]⟩, ⟨#[99, 97, 108, 108]⟩, ⟨#[114, 101, 116]⟩, ⟨#[111, 117, 116]⟩, ⟨#[110, 111, 116, 101]⟩, ⟨#[115, 119, 97, 112]⟩, ⟨#[99, 111, 114, 101]⟩, ⟨#[104, 97, 108, 116]⟩]
def opRow : List (List D) := [[DS ⟨#[108, 105]⟩], [DS ⟨#[109, 111, 118]⟩], [DS ⟨#[97, 100, 100]⟩], [DS ⟨#[115, 117, 98]⟩], [DS ⟨#[109, 117, 108]⟩], [DS ⟨#[108, 116]⟩], [DS ⟨#[101, 113]⟩], [DS ⟨#[108, 100]⟩], [DS ⟨#[115, 116]⟩], [DS ⟨#[99, 97, 115]⟩], [DS ⟨#[106, 109, 112]⟩], [DS ⟨#[106, 122]⟩], [DS ⟨#[99, 97, 108, 108]⟩], [DS ⟨#[114, 101, 116]⟩], [DS ⟨#[111, 117, 116]⟩], [DS ⟨#[110, 111, 116, 101]⟩], [DS ⟨#[115, 119, 97, 112]⟩], [DS ⟨#[99, 111, 114, 101]⟩], [DS ⟨#[104, 97, 108, 116]⟩]]
theorem opRow_len : opRow.length = 19 := rfl
def opName (k : Int) : ByteArray := if 1 ≤ k ∧ k ≤ 19 then opNames.getD (k - 1).toNat ByteArray.empty else ⟨#[]⟩
theorem op_cases {k : Int} (h : 1 ≤ k ∧ k ≤ 19) : k = 1 ∨ k = 2 ∨ k = 3 ∨ k = 4 ∨ k = 5 ∨ k = 6 ∨ k = 7 ∨ k = 8 ∨ k = 9 ∨ k = 10 ∨ k = 11 ∨ k = 12 ∨ k = 13 ∨ k = 14 ∨ k = 15 ∨ k = 16 ∨ k = 17 ∨ k = 18 ∨ k = 19 := by omega
theorem opRow_get {k : Int} (h : 1 ≤ k ∧ k ≤ 19) : opRow[(k - 1).toNat]? = some [DS (opName k)] := by
  rcases op_cases h with rfl | rfl | rfl | rfl | rfl | rfl | rfl | rfl | rfl | rfl | rfl | rfl | rfl | rfl | rfl | rfl | rfl | rfl | rfl <;> rfl
theorem opName_size (k : Int) : (opName k).size ≤ 4 := by
  unfold opName
  split
  · rename_i h
    rcases op_cases h with rfl | rfl | rfl | rfl | rfl | rfl | rfl | rfl | rfl | rfl | rfl | rfl | rfl | rfl | rfl | rfl | rfl | rfl | rfl <;> decide
  · decide
/-- Numbers, each behind a blank. -/
def numsTxt : List Int → ByteArray
  | [] => ⟨#[]⟩
  | n :: ns => ⟨#[32]⟩ ++ dig n ++ numsTxt ns
theorem numsTxt_size : ∀ {ns : List Int}, (∀ n ∈ ns, i64 n) → (numsTxt ns).size ≤ 21 * ns.length
  | [], _ => by simp only [numsTxt, size_lit]; simp
  | n :: ns, h => by
    have h1 := dig_size (h n (by simp))
    have h2 := numsTxt_size (ns := ns) (fun m hm => h m (by simp [hm]))
    simp only [numsTxt, ByteArray.size_append, size_lit, List.length_cons, List.length_nil]
    omega
abbrev numR (ns : List Int) : List (List D) := ns.map fun n => [DI n]
theorem spec_ImageText_l0 (img : List Ins) (i : Int) (nums : List Int) (hnums : ∀ n ∈ nums, i64 n) (hlen : nums.length ≤ 100) : ∀ (rest done : List Int) (out : ByteArray), nums = done ++ rest → out.size + 21 * rest.length ≤ 1099511627776 →
    loopW tab [0, 3, 4, 5, 8, 9] b_spec_ImageText_0 { env := upd (upd (upd (upd (upd (upd emp 9 (some (I (done.length : Int)))) 8 (some (.ref (0, 1) []))) 5 (some (I i))) 4 (some (Str out))) 3 (some (.ref (0, 0) []))) 0 (some (insX img)), heap := upd (upd emp (0, 1) (some (.s 1 (numR nums)))) (0, 0) (some (.s 1 opRow)), fr := 0, next := 2 } = some (.ext 2, { env := upd (upd (upd (upd emp 5 (some (I i))) 4 (some (Str (out ++ numsTxt rest)))) 3 (some (.ref (0, 0) []))) 0 (some (insX img)), heap := upd emp (0, 0) (some (.s 1 opRow)), fr := 0, next := 1 })
  | [], done, out, h, ho => by
    rw [List.append_nil] at h
    subst h
    unfold loopW
    conv => lhs; arg 1; unfold b_spec_ImageText_0
    have h1 : out ++ numsTxt [] = out := ByteArray.append_empty
    simp (disch := (first | omega | assumption | (refine ⟨?_, ?_⟩ <;> omega) | (unfold catOk; (try simp only [ByteArray.size_append, size_lit, List.length_cons, List.length_nil]); omega) | (unfold mkOk; omega) | (unfold appOk; (try simp only [List.length_map, List.length_append, List.length_cons, List.length_nil]); omega))) only [go_sem, Nat.reduceEqDiff, Nat.reduceBEq, Nat.reduceAdd, Nat.reduceSub, Nat.reduceMul, Nat.reduceLeDiff, Nat.reduceLT, ↓reduceIte, reduceCtorEq, Int.reduceEq, Int.reduceLE, Int.reduceLT, Int.reduceToNat, Int.reduceNeg, Int.reduceSub, Int.reduceAdd, Int.reduceMul, ltT, ltF, leT, leF, neF, catT, mkT, appT, wrap_id, List.length_map, Int.toNat_natCast, h1]
  | n :: rest, done, out, h, ho => by
    unfold loopW
    conv => lhs; arg 1; unfold b_spec_ImageText_0
    have hl : nums.length = done.length + (rest.length + 1) := by rw [h]; simp
    have hn : i64 n := hnums n (by rw [h]; simp)
    have h2 : (numR nums)[done.length]? = some [DI n] := by rw [h]; simp
    have hd := dig_size hn
    simp only [List.length_cons] at ho
    have ih := spec_ImageText_l0 img i nums hnums hlen rest (done ++ [n]) (out ++ ⟨#[32]⟩ ++ dig n) (by simp [h]) (by simp only [ByteArray.size_append, size_lit, List.length_cons, List.length_nil]; omega)
    rw [show (((done ++ [n]).length : Nat) : Int) = (done.length : Int) + 1 by simp] at ih
    have h3 : out ++ numsTxt (n :: rest) = out ++ ⟨#[32]⟩ ++ dig n ++ numsTxt rest := by simp only [numsTxt, ByteArray.append_assoc]
    simp (disch := (first | omega | assumption | (refine ⟨?_, ?_⟩ <;> omega) | (unfold catOk; (try simp only [ByteArray.size_append, size_lit, List.length_cons, List.length_nil]); omega) | (unfold mkOk; omega) | (unfold appOk; (try simp only [List.length_map, List.length_append, List.length_cons, List.length_nil]); omega))) only [go_sem, Nat.reduceEqDiff, Nat.reduceBEq, Nat.reduceAdd, Nat.reduceSub, Nat.reduceMul, Nat.reduceLeDiff, Nat.reduceLT, ↓reduceIte, reduceCtorEq, Int.reduceEq, Int.reduceLE, Int.reduceLT, Int.reduceToNat, Int.reduceNeg, Int.reduceSub, Int.reduceAdd, Int.reduceMul, ltT, ltF, leT, leF, neF, catT, mkT, appT, wrap_id, List.length_map, Int.toNat_natCast, h2, h3, spec_Digits_ok hn, ih]
def lineTxt (i : Int) (x : Ins) : ByteArray := dig i ++ ⟨#[32]⟩ ++ opName x.Op ++ numsTxt [x.R, x.A, x.B, x.N, x.M] ++ ⟨#[10]⟩
def imgTxt : Int → List Ins → ByteArray
  | _, [] => ⟨#[]⟩
  | i, x :: xs => lineTxt i x ++ imgTxt (i + 1) xs
theorem nums_i64 {x : Ins} (h : x.ok) : ∀ n ∈ [x.R, x.A, x.B, x.N, x.M], i64 n := by
  intro n hn
  simp only [List.mem_cons, List.not_mem_nil, or_false] at hn
  rcases hn with rfl | rfl | rfl | rfl | rfl
  · exact h.R
  · exact h.A
  · exact h.B
  · exact h.N
  · exact h.M
theorem lineTxt_size {i : Int} {x : Ins} (hi : i64 i) (hx : x.ok) : (lineTxt i x).size ≤ 131 := by
  have h1 := dig_size hi
  have h2 := numsTxt_size (nums_i64 hx)
  have h3 := opName_size x.Op
  simp only [List.length_cons, List.length_nil] at h2
  simp only [lineTxt, ByteArray.size_append, size_lit, List.length_cons, List.length_nil]
  omega
theorem spec_ImageText_l1 (img : List Ins) (hok : ∀ x ∈ img, x.ok) (hlen : img.length ≤ 1048576) : ∀ (rest done : List Ins) (out : ByteArray), img = done ++ rest → out.size + 131 * rest.length ≤ 549755813888 →
    loopW tab [0, 3, 4, 5] b_spec_ImageText_1 { env := upd (upd (upd (upd emp 5 (some (I (done.length : Int)))) 4 (some (Str out))) 3 (some (.ref (0, 0) []))) 0 (some (insX img)), heap := upd emp (0, 0) (some (.s 1 opRow)), fr := 0, next := 1 } = some (.ext 0, { env := upd emp 4 (some (Str (out ++ imgTxt done.length rest))), heap := emp, fr := 0, next := 0 })
  | [], done, out, h, ho => by
    rw [List.append_nil] at h
    subst h
    unfold loopW
    conv => lhs; arg 1; unfold b_spec_ImageText_1
    have h1 : out ++ imgTxt img.length [] = out := ByteArray.append_empty
    simp (disch := (first | omega | assumption | (refine ⟨?_, ?_⟩ <;> omega) | (unfold catOk; (try simp only [ByteArray.size_append, size_lit, List.length_cons, List.length_nil]); omega) | (unfold mkOk; omega) | (unfold appOk; (try simp only [List.length_map, List.length_append, List.length_cons, List.length_nil]); omega))) only [go_sem, Nat.reduceEqDiff, Nat.reduceBEq, Nat.reduceAdd, Nat.reduceSub, Nat.reduceMul, Nat.reduceLeDiff, Nat.reduceLT, ↓reduceIte, reduceCtorEq, Int.reduceEq, Int.reduceLE, Int.reduceLT, Int.reduceToNat, Int.reduceNeg, Int.reduceSub, Int.reduceAdd, Int.reduceMul, ltT, ltF, leT, leF, neF, catT, mkT, appT, wrap_id, List.length_map, Int.toNat_natCast, h1]
  | x :: rest, done, out, h, ho => by
    unfold loopW
    conv => lhs; arg 1; unfold b_spec_ImageText_1
    have hl : img.length = done.length + (rest.length + 1) := by rw [h]; simp
    have hx : x.ok := hok x (by rw [h]; simp)
    have h2 : (img.map Ins.enc)[done.length]? = some [DI x.Op, DI x.R, DI x.A, DI x.B, DI x.N, DI x.M] := by rw [h]; simp [Ins.enc]
    have hi : i64 (done.length : Int) := by constructor <;> omega
    have hd := dig_size hi
    have ho1 := opName_size x.Op
    have hlt := lineTxt_size hi hx
    simp only [List.length_cons] at ho
    have ih := spec_ImageText_l1 img hok hlen rest (done ++ [x]) (out ++ lineTxt done.length x) (by simp [h]) (by rw [ByteArray.size_append]; omega)
    rw [show (((done ++ [x]).length : Nat) : Int) = (done.length : Int) + 1 by simp] at ih
    have h3 : out ++ imgTxt done.length (x :: rest) = out ++ lineTxt done.length x ++ imgTxt (done.length + 1) rest := by simp only [imgTxt, ByteArray.append_assoc]
    have hin := spec_ImageText_l0 img done.length [x.R, x.A, x.B, x.N, x.M] (nums_i64 hx) (by simp) [x.R, x.A, x.B, x.N, x.M] [] (out ++ dig done.length ++ ⟨#[32]⟩ ++ opName x.Op) rfl (by simp only [ByteArray.size_append, size_lit, List.length_cons, List.length_nil]; omega)
    simp only [List.length_nil, Int.cast_ofNat_Int, numR, List.map_cons, List.map_nil] at hin
    have h4 : out ++ dig done.length ++ ⟨#[32]⟩ ++ opName x.Op ++ numsTxt [x.R, x.A, x.B, x.N, x.M] ++ ⟨#[10]⟩ = out ++ lineTxt done.length x := by simp only [lineTxt, ByteArray.append_assoc]
    have hns := numsTxt_size (nums_i64 hx)
    simp only [List.length_cons, List.length_nil] at hns
    have hcat : catOk (out ++ dig done.length ++ ⟨#[32]⟩ ++ opName x.Op ++ numsTxt [x.R, x.A, x.B, x.N, x.M]) ⟨#[10]⟩ := by
      unfold catOk
      simp only [ByteArray.size_append, size_lit, List.length_cons, List.length_nil]
      omega
    rw [h3]
    by_cases hop : 1 ≤ x.Op ∧ x.Op ≤ 19
    · have hg := opRow_get hop
      simp (disch := (first | omega | assumption | (refine ⟨?_, ?_⟩ <;> omega) | (unfold catOk; (try simp only [ByteArray.size_append, size_lit, List.length_cons, List.length_nil]); omega) | (unfold mkOk; omega) | (unfold appOk; (try simp only [List.length_map, List.length_append, List.length_cons, List.length_nil]); omega))) only [go_sem, Nat.reduceEqDiff, Nat.reduceBEq, Nat.reduceAdd, Nat.reduceSub, Nat.reduceMul, Nat.reduceLeDiff, Nat.reduceLT, ↓reduceIte, reduceCtorEq, Int.reduceEq, Int.reduceLE, Int.reduceLT, Int.reduceToNat, Int.reduceNeg, Int.reduceSub, Int.reduceAdd, Int.reduceMul, ltT, ltF, leT, leF, neF, catT, mkT, appT, wrap_id, List.length_map, Int.toNat_natCast, h2, spec_l1In_ok, spec_Digits_ok hi, hin, hg, opRow_len, hcat, h4, ih]
    · have hb : (decide (1 ≤ x.Op) && decide (x.Op ≤ 19)) = false := by
        rw [← Bool.decide_and]
        exact decide_eq_false hop
      have hn : opName x.Op = ⟨#[]⟩ := by unfold opName; rw [if_neg hop]
      rw [hn] at hin h4 hcat
      simp (disch := (first | omega | assumption | (refine ⟨?_, ?_⟩ <;> omega) | (unfold catOk; (try simp only [ByteArray.size_append, size_lit, List.length_cons, List.length_nil]); omega) | (unfold mkOk; omega) | (unfold appOk; (try simp only [List.length_map, List.length_append, List.length_cons, List.length_nil]); omega))) only [go_sem, Nat.reduceEqDiff, Nat.reduceBEq, Nat.reduceAdd, Nat.reduceSub, Nat.reduceMul, Nat.reduceLeDiff, Nat.reduceLT, ↓reduceIte, reduceCtorEq, Int.reduceEq, Int.reduceLE, Int.reduceLT, Int.reduceToNat, Int.reduceNeg, Int.reduceSub, Int.reduceAdd, Int.reduceMul, ltT, ltF, leT, leF, neF, catT, mkT, appT, wrap_id, List.length_map, Int.toNat_natCast, h2, spec_l1In_ok, spec_Digits_ok hi, hin, hb, hcat, h4, ih]
theorem spec_ImageText_ok (img : List Ins) (hok : ∀ x ∈ img, x.ok) (hlen : img.length ≤ 1048576) : call tab spec_ImageText [insX img] = some (Str (imgTxt 0 img)) := by
  rw [call_of t_spec_ImageText _ rfl, c_spec_ImageText]
  have hl := spec_ImageText_l1 img hok hlen img [] ⟨#[]⟩ rfl (by simp only [size_lit, List.length_nil]; omega)
  have h1 : (⟨#[]⟩ : ByteArray) ++ imgTxt 0 img = imgTxt 0 img := ByteArray.empty_append
  simp only [List.length_nil, Int.cast_ofNat_Int, h1, opRow] at hl
  simp (disch := (first | omega | assumption | (refine ⟨?_, ?_⟩ <;> omega) | (unfold catOk; (try simp only [ByteArray.size_append, size_lit, List.length_cons, List.length_nil]); omega) | (unfold mkOk; omega) | (unfold appOk; (try simp only [List.length_map, List.length_append, List.length_cons, List.length_nil]); omega))) only [go_sem, Nat.reduceEqDiff, Nat.reduceBEq, Nat.reduceAdd, Nat.reduceSub, Nat.reduceMul, Nat.reduceLeDiff, Nat.reduceLT, ↓reduceIte, reduceCtorEq, Int.reduceEq, Int.reduceLE, Int.reduceLT, Int.reduceToNat, Int.reduceNeg, Int.reduceSub, Int.reduceAdd, Int.reduceMul, ltT, ltF, leT, leF, neF, catT, mkT, appT, wrap_id, List.length_map, Int.toNat_natCast, hl]
theorem impl_ImageText_l0 (img : List Ins) (i : Int) (nums : List Int) (hnums : ∀ n ∈ nums, i64 n) (hlen : nums.length ≤ 100) : ∀ (rest done : List Int) (out : ByteArray), nums = done ++ rest → out.size + 21 * rest.length ≤ 1099511627776 →
    loopW tab [3, 4, 11, 12, 13, 44, 45, 46] b_impl_ImageText_0 { env := upd (upd (upd (upd (upd (upd (upd (upd emp 46 (some (I (done.length : Int)))) 45 (some (I (nums.length : Int)))) 44 (some (.ref (0, 1) []))) 13 (some (I i))) 12 (some (I (img.length : Int)))) 11 (some (insX img))) 4 (some (Str out))) 3 (some (.ref (0, 0) [])), heap := upd (upd emp (0, 1) (some (.s 1 (numR nums)))) (0, 0) (some (.s 1 opRow)), fr := 0, next := 2 } = some (.ext 2, { env := upd (upd (upd (upd (upd emp 13 (some (I i))) 12 (some (I (img.length : Int)))) 11 (some (insX img))) 4 (some (Str (out ++ numsTxt rest)))) 3 (some (.ref (0, 0) [])), heap := upd emp (0, 0) (some (.s 1 opRow)), fr := 0, next := 1 })
  | [], done, out, h, ho => by
    rw [List.append_nil] at h
    subst h
    unfold loopW
    conv => lhs; arg 1; unfold b_impl_ImageText_0
    have h1 : out ++ numsTxt [] = out := ByteArray.append_empty
    simp (disch := (first | omega | assumption | (refine ⟨?_, ?_⟩ <;> omega) | (unfold catOk; (try simp only [ByteArray.size_append, size_lit, List.length_cons, List.length_nil]); omega) | (unfold mkOk; omega) | (unfold appOk; (try simp only [List.length_map, List.length_append, List.length_cons, List.length_nil]); omega))) only [go_sem, Nat.reduceEqDiff, Nat.reduceBEq, Nat.reduceAdd, Nat.reduceSub, Nat.reduceMul, Nat.reduceLeDiff, Nat.reduceLT, ↓reduceIte, reduceCtorEq, Int.reduceEq, Int.reduceLE, Int.reduceLT, Int.reduceToNat, Int.reduceNeg, Int.reduceSub, Int.reduceAdd, Int.reduceMul, ltT, ltF, leT, leF, neF, catT, mkT, appT, wrap_id, List.length_map, Int.toNat_natCast, h1]
  | n :: rest, done, out, h, ho => by
    unfold loopW
    conv => lhs; arg 1; unfold b_impl_ImageText_0
    have hl : nums.length = done.length + (rest.length + 1) := by rw [h]; simp
    have hn : i64 n := hnums n (by rw [h]; simp)
    have h2 : (numR nums)[done.length]? = some [DI n] := by rw [h]; simp
    have hd := dig_size hn
    simp only [List.length_cons] at ho
    have ih := impl_ImageText_l0 img i nums hnums hlen rest (done ++ [n]) (out ++ (⟨#[32]⟩ ++ dig n)) (by simp [h]) (by simp only [ByteArray.size_append, size_lit, List.length_cons, List.length_nil]; omega)
    rw [show (((done ++ [n]).length : Nat) : Int) = (done.length : Int) + 1 by simp] at ih
    have h3 : out ++ numsTxt (n :: rest) = out ++ (⟨#[32]⟩ ++ dig n) ++ numsTxt rest := by simp only [numsTxt, ByteArray.append_assoc]
    simp (disch := (first | omega | assumption | (refine ⟨?_, ?_⟩ <;> omega) | (unfold catOk; (try simp only [ByteArray.size_append, size_lit, List.length_cons, List.length_nil]); omega) | (unfold mkOk; omega) | (unfold appOk; (try simp only [List.length_map, List.length_append, List.length_cons, List.length_nil]); omega))) only [go_sem, Nat.reduceEqDiff, Nat.reduceBEq, Nat.reduceAdd, Nat.reduceSub, Nat.reduceMul, Nat.reduceLeDiff, Nat.reduceLT, ↓reduceIte, reduceCtorEq, Int.reduceEq, Int.reduceLE, Int.reduceLT, Int.reduceToNat, Int.reduceNeg, Int.reduceSub, Int.reduceAdd, Int.reduceMul, ltT, ltF, leT, leF, neF, catT, mkT, appT, wrap_id, List.length_map, Int.toNat_natCast, h2, h3, impl_Digits_ok hn, ih]
theorem impl_ImageText_l1 (img : List Ins) (hok : ∀ x ∈ img, x.ok) (hlen : img.length ≤ 1048576) : ∀ (rest done : List Ins) (out : ByteArray), img = done ++ rest → out.size + 131 * rest.length ≤ 549755813888 →
    loopW tab [3, 4, 11, 12, 13] b_impl_ImageText_1 { env := upd (upd (upd (upd (upd emp 13 (some (I (done.length : Int)))) 12 (some (I (img.length : Int)))) 11 (some (insX img))) 4 (some (Str out))) 3 (some (.ref (0, 0) [])), heap := upd emp (0, 0) (some (.s 1 opRow)), fr := 0, next := 1 } = some (.ext 0, { env := upd emp 4 (some (Str (out ++ imgTxt done.length rest))), heap := emp, fr := 0, next := 0 })
  | [], done, out, h, ho => by
    rw [List.append_nil] at h
    subst h
    unfold loopW
    conv => lhs; arg 1; unfold b_impl_ImageText_1
    have h1 : out ++ imgTxt img.length [] = out := ByteArray.append_empty
    simp (disch := (first | omega | assumption | (refine ⟨?_, ?_⟩ <;> omega) | (unfold catOk; (try simp only [ByteArray.size_append, size_lit, List.length_cons, List.length_nil]); omega) | (unfold mkOk; omega) | (unfold appOk; (try simp only [List.length_map, List.length_append, List.length_cons, List.length_nil]); omega))) only [go_sem, Nat.reduceEqDiff, Nat.reduceBEq, Nat.reduceAdd, Nat.reduceSub, Nat.reduceMul, Nat.reduceLeDiff, Nat.reduceLT, ↓reduceIte, reduceCtorEq, Int.reduceEq, Int.reduceLE, Int.reduceLT, Int.reduceToNat, Int.reduceNeg, Int.reduceSub, Int.reduceAdd, Int.reduceMul, ltT, ltF, leT, leF, neF, catT, mkT, appT, wrap_id, List.length_map, Int.toNat_natCast, h1]
  | x :: rest, done, out, h, ho => by
    unfold loopW
    conv => lhs; arg 1; unfold b_impl_ImageText_1
    have hl : img.length = done.length + (rest.length + 1) := by rw [h]; simp
    have hx : x.ok := hok x (by rw [h]; simp)
    have h2 : (img.map Ins.enc)[done.length]? = some [DI x.Op, DI x.R, DI x.A, DI x.B, DI x.N, DI x.M] := by rw [h]; simp [Ins.enc]
    have hi : i64 (done.length : Int) := by constructor <;> omega
    have hd := dig_size hi
    have ho1 := opName_size x.Op
    have hlt := lineTxt_size hi hx
    simp only [List.length_cons] at ho
    have ih := impl_ImageText_l1 img hok hlen rest (done ++ [x]) (out ++ lineTxt done.length x) (by simp [h]) (by rw [ByteArray.size_append]; omega)
    rw [show (((done ++ [x]).length : Nat) : Int) = (done.length : Int) + 1 by simp] at ih
    have h3 : out ++ imgTxt done.length (x :: rest) = out ++ lineTxt done.length x ++ imgTxt (done.length + 1) rest := by simp only [imgTxt, ByteArray.append_assoc]
    have hin := impl_ImageText_l0 img done.length [x.R, x.A, x.B, x.N, x.M] (nums_i64 hx) (by simp) [x.R, x.A, x.B, x.N, x.M] [] (out ++ (dig done.length ++ ⟨#[32]⟩ ++ opName x.Op)) rfl (by simp only [ByteArray.size_append, size_lit, List.length_cons, List.length_nil]; omega)
    simp only [List.length_nil, Int.cast_ofNat_Int, numR, List.map_cons, List.map_nil, List.length_cons, Nat.zero_add, Nat.reduceAdd] at hin
    have h4 : out ++ (dig done.length ++ ⟨#[32]⟩ ++ opName x.Op) ++ numsTxt [x.R, x.A, x.B, x.N, x.M] ++ ⟨#[10]⟩ = out ++ lineTxt done.length x := by simp only [lineTxt, ByteArray.append_assoc]
    have hns := numsTxt_size (nums_i64 hx)
    simp only [List.length_cons, List.length_nil] at hns
    have hcat : catOk (out ++ (dig done.length ++ ⟨#[32]⟩ ++ opName x.Op) ++ numsTxt [x.R, x.A, x.B, x.N, x.M]) ⟨#[10]⟩ := by
      unfold catOk
      simp only [ByteArray.size_append, size_lit, List.length_cons, List.length_nil]
      omega
    rw [h3]
    by_cases hop : 1 ≤ x.Op ∧ x.Op ≤ 19
    · have hg := opRow_get hop
      simp (disch := (first | omega | assumption | (refine ⟨?_, ?_⟩ <;> omega) | (unfold catOk; (try simp only [ByteArray.size_append, size_lit, List.length_cons, List.length_nil]); omega) | (unfold mkOk; omega) | (unfold appOk; (try simp only [List.length_map, List.length_append, List.length_cons, List.length_nil]); omega))) only [go_sem, Nat.reduceEqDiff, Nat.reduceBEq, Nat.reduceAdd, Nat.reduceSub, Nat.reduceMul, Nat.reduceLeDiff, Nat.reduceLT, ↓reduceIte, reduceCtorEq, Int.reduceEq, Int.reduceLE, Int.reduceLT, Int.reduceToNat, Int.reduceNeg, Int.reduceSub, Int.reduceAdd, Int.reduceMul, ltT, ltF, leT, leF, neF, catT, mkT, appT, wrap_id, List.length_map, Int.toNat_natCast, h2, impl_within_ok, impl_Digits_ok hi, hin, hg, opRow_len, hcat, h4, ih]
    · have hb : (decide (1 ≤ x.Op) && decide (x.Op ≤ 19)) = false := by
        rw [← Bool.decide_and]
        exact decide_eq_false hop
      have hn : opName x.Op = ⟨#[]⟩ := by unfold opName; rw [if_neg hop]
      rw [hn] at hin h4 hcat
      simp (disch := (first | omega | assumption | (refine ⟨?_, ?_⟩ <;> omega) | (unfold catOk; (try simp only [ByteArray.size_append, size_lit, List.length_cons, List.length_nil]); omega) | (unfold mkOk; omega) | (unfold appOk; (try simp only [List.length_map, List.length_append, List.length_cons, List.length_nil]); omega))) only [go_sem, Nat.reduceEqDiff, Nat.reduceBEq, Nat.reduceAdd, Nat.reduceSub, Nat.reduceMul, Nat.reduceLeDiff, Nat.reduceLT, ↓reduceIte, reduceCtorEq, Int.reduceEq, Int.reduceLE, Int.reduceLT, Int.reduceToNat, Int.reduceNeg, Int.reduceSub, Int.reduceAdd, Int.reduceMul, ltT, ltF, leT, leF, neF, catT, mkT, appT, wrap_id, List.length_map, Int.toNat_natCast, h2, impl_within_ok, impl_Digits_ok hi, hin, hb, hcat, h4, ih]
theorem impl_ImageText_ok (img : List Ins) (hok : ∀ x ∈ img, x.ok) (hlen : img.length ≤ 1048576) : call tab impl_ImageText [insX img] = some (Str (imgTxt 0 img)) := by
  rw [call_of t_impl_ImageText _ rfl, c_impl_ImageText]
  have hl := impl_ImageText_l1 img hok hlen img [] ⟨#[]⟩ rfl (by simp only [size_lit, List.length_nil]; omega)
  have h1 : (⟨#[]⟩ : ByteArray) ++ imgTxt 0 img = imgTxt 0 img := ByteArray.empty_append
  simp only [List.length_nil, Int.cast_ofNat_Int, h1, opRow] at hl
  simp (disch := (first | omega | assumption | (refine ⟨?_, ?_⟩ <;> omega) | (unfold catOk; (try simp only [ByteArray.size_append, size_lit, List.length_cons, List.length_nil]); omega) | (unfold mkOk; omega) | (unfold appOk; (try simp only [List.length_map, List.length_append, List.length_cons, List.length_nil]); omega))) only [go_sem, Nat.reduceEqDiff, Nat.reduceBEq, Nat.reduceAdd, Nat.reduceSub, Nat.reduceMul, Nat.reduceLeDiff, Nat.reduceLT, ↓reduceIte, reduceCtorEq, Int.reduceEq, Int.reduceLE, Int.reduceLT, Int.reduceToNat, Int.reduceNeg, Int.reduceSub, Int.reduceAdd, Int.reduceMul, ltT, ltF, leT, leF, neF, catT, mkT, appT, wrap_id, List.length_map, Int.toNat_natCast, hl]
theorem law_FnExactImageText (img : List Ins) (hok : ∀ x ∈ img, x.ok) (hb : img.length ≤ 4611686018427387904) : call tab laws_FnExactImageText [insX img] = some (B true) := by
  rw [call_of t_laws_FnExactImageText _ rfl, c_laws_FnExactImageText]
  by_cases h : (1048576 : Int) - img.length < 0
  · have hs := laws_szInsS_ok img 1048576 (by omega) hb
    rw [if_pos h] at hs
    simp (disch := (first | omega | assumption | (refine ⟨?_, ?_⟩ <;> omega) | (unfold catOk; (try simp only [ByteArray.size_append, size_lit, List.length_cons, List.length_nil]); omega) | (unfold mkOk; omega) | (unfold appOk; (try simp only [List.length_map, List.length_append, List.length_cons, List.length_nil]); omega))) only [go_sem, Nat.reduceEqDiff, Nat.reduceBEq, Nat.reduceAdd, Nat.reduceSub, Nat.reduceMul, Nat.reduceLeDiff, Nat.reduceLT, ↓reduceIte, reduceCtorEq, Int.reduceEq, Int.reduceLE, Int.reduceLT, Int.reduceToNat, Int.reduceNeg, Int.reduceSub, Int.reduceAdd, Int.reduceMul, ltT, ltF, leT, leF, neF, catT, mkT, appT, wrap_id, List.length_map, Int.toNat_natCast, hs]
  · have hs := laws_szInsS_ok img 1048576 (by omega) hb
    rw [if_neg h] at hs
    have hl : img.length ≤ 1048576 := by omega
    simp (disch := (first | omega | assumption | (refine ⟨?_, ?_⟩ <;> omega) | (unfold catOk; (try simp only [ByteArray.size_append, size_lit, List.length_cons, List.length_nil]); omega) | (unfold mkOk; omega) | (unfold appOk; (try simp only [List.length_map, List.length_append, List.length_cons, List.length_nil]); omega))) only [go_sem, Nat.reduceEqDiff, Nat.reduceBEq, Nat.reduceAdd, Nat.reduceSub, Nat.reduceMul, Nat.reduceLeDiff, Nat.reduceLT, ↓reduceIte, reduceCtorEq, Int.reduceEq, Int.reduceLE, Int.reduceLT, Int.reduceToNat, Int.reduceNeg, Int.reduceSub, Int.reduceAdd, Int.reduceMul, ltT, ltF, leT, leF, neF, catT, mkT, appT, wrap_id, List.length_map, Int.toNat_natCast, hs, h, laws_toInsS_ok img hl, spec_ImageText_ok img hok hl, impl_ImageText_ok img hok hl, laws_eqInsS_ok img hl, fzs_Ins]
theorem fit_Ins {c : List D} (h : fitL [.i .i64, .i .i64, .i .i64, .i .i64, .i .i64, .i .i64] c) : ∃ x : Ins, c = x.enc ∧ x.ok := by
  simp only [fitL, fit] at h
  obtain ⟨_, _, rfl, ⟨a, rfl, ha⟩, _, _, rfl, ⟨b, rfl, hb⟩, _, _, rfl, ⟨c, rfl, hc⟩, _, _, rfl, ⟨d, rfl, hd⟩, _, _, rfl, ⟨e, rfl, he⟩, _, _, rfl, ⟨f, rfl, hf⟩, rfl⟩ := h
  exact ⟨⟨a, b, c, d, e, f⟩, rfl, ⟨wf64 ha, wf64 hb, wf64 hc, wf64 hd, wf64 he, wf64 hf⟩⟩
theorem fit_all {α : Type} {enc : α → List D} {ok : α → Prop} {ts : List Ty} (h : ∀ c, fitL ts c → ∃ x, c = enc x ∧ ok x) : ∀ {els : List (List D)}, (∀ c ∈ els, fitL ts c) → ∃ xs : List α, els = xs.map enc ∧ ∀ x ∈ xs, ok x
  | [], _ => ⟨[], rfl, by simp⟩
  | c :: els, hc => by
    obtain ⟨x, rfl, h1⟩ := h c (hc c (by simp))
    obtain ⟨xs, rfl, h2⟩ := fit_all h (els := els) (fun c' h' => hc c' (by simp [h']))
    exact ⟨x :: xs, rfl, fun y hy => by
      rcases List.mem_cons.1 hy with rfl | hy
      · exact h1
      · exact h2 y hy⟩
theorem pure_FnExactImageText (xs : List X) (h : fitXs [(false, [.l 48 [.i .i64, .i .i64, .i .i64, .i .i64, .i .i64, .i .i64]])] xs) : call tab laws_FnExactImageText xs = some (.d (.v (.bool true))) := by
  simp only [fitXs, fitX] at h
  obtain ⟨x, r, rfl, ⟨d, rfl, hf⟩, rfl⟩ := h
  rw [fit] at hf
  obtain ⟨els, rfl, hb, hc⟩ := hf
  obtain ⟨img, rfl, hok⟩ := fit_all (fun c hc => fit_Ins hc) hc
  rw [List.length_map] at hb
  exact law_FnExactImageText img hok (by omega)
end Go.Ev.G
