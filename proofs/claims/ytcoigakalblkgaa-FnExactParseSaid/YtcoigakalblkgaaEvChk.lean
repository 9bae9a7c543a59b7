/- The slim code, checked against the given program. Written by gen.py. -/
import Derived.Test.YtcoigakalblkgaaEvTab
import Derived.Test.YtcoigakalblkgaaProg
import Derived.KernelRfl
namespace Go.Ev.G
open Go.Proofs
set_option linter.all false
theorem k_laws_FnExactParse : chkFn Try.prog 8 s_laws_FnExactParse = true := by kernel_rfl
theorem k_spec_Parse : chkFn Try.prog 41 s_spec_Parse = true := by kernel_rfl
theorem k_impl_Parse : chkFn Try.prog 42 s_impl_Parse = true := by kernel_rfl
theorem k_laws_eqFuncS : chkFn Try.prog 43 s_laws_eqFuncS = true := by kernel_rfl
theorem k_laws_markFuncS : chkFn Try.prog 44 s_laws_markFuncS = true := by kernel_rfl
theorem k_laws_heldFuncS : chkFn Try.prog 45 s_laws_heldFuncS = true := by kernel_rfl
theorem k_laws_markText : chkFn Try.prog 57 s_laws_markText = true := by kernel_rfl
theorem k_spec_Digits : chkFn Try.prog 62 s_spec_Digits = true := by kernel_rfl
theorem k_impl_Digits : chkFn Try.prog 68 s_impl_Digits = true := by kernel_rfl
theorem k_spec_l1In : chkFn Try.prog 73 s_spec_l1In = true := by kernel_rfl
theorem k_impl_within : chkFn Try.prog 75 s_impl_within = true := by kernel_rfl
theorem k_spec_Tokens : chkFn Try.prog 104 s_spec_Tokens = true := by kernel_rfl
theorem k_spec_l6Now : chkFn Try.prog 105 s_spec_l6Now = true := by kernel_rfl
theorem k_spec_l6Func : chkFn Try.prog 106 s_spec_l6Func = true := by kernel_rfl
theorem k_spec_l1Max : chkFn Try.prog 107 s_spec_l1Max = true := by kernel_rfl
theorem k_spec_Deep : chkFn Try.prog 108 s_spec_Deep = true := by kernel_rfl
theorem k_impl_Tokens : chkFn Try.prog 109 s_impl_Tokens = true := by kernel_rfl
theorem k_impl_parser_take : chkFn Try.prog 110 s_impl_parser_take = true := by kernel_rfl
theorem k_impl_parser_function : chkFn Try.prog 111 s_impl_parser_function = true := by kernel_rfl
theorem k_impl_parser_here : chkFn Try.prog 112 s_impl_parser_here = true := by kernel_rfl
theorem k_impl_parser_failAt : chkFn Try.prog 113 s_impl_parser_failAt = true := by kernel_rfl
theorem k_impl_Deep : chkFn Try.prog 114 s_impl_Deep = true := by kernel_rfl
theorem k_laws_eqFunc : chkFn Try.prog 115 s_laws_eqFunc = true := by kernel_rfl
theorem k_laws_markParamS : chkFn Try.prog 116 s_laws_markParamS = true := by kernel_rfl
theorem k_laws_markNodeS : chkFn Try.prog 117 s_laws_markNodeS = true := by kernel_rfl
theorem k_laws_heldParamS : chkFn Try.prog 118 s_laws_heldParamS = true := by kernel_rfl
theorem k_laws_heldNodeS : chkFn Try.prog 119 s_laws_heldNodeS = true := by kernel_rfl
theorem k_spec_WordOk : chkFn Try.prog 122 s_spec_WordOk = true := by kernel_rfl
theorem k_impl_WordOk : chkFn Try.prog 126 s_impl_WordOk = true := by kernel_rfl
theorem k_spec_l5One : chkFn Try.prog 168 s_spec_l5One = true := by kernel_rfl
theorem k_spec_l6Word : chkFn Try.prog 169 s_spec_l6Word = true := by kernel_rfl
theorem k_spec_l6Name : chkFn Try.prog 170 s_spec_l6Name = true := by kernel_rfl
theorem k_spec_l6Take : chkFn Try.prog 171 s_spec_l6Take = true := by kernel_rfl
theorem k_spec_l6Sign : chkFn Try.prog 172 s_spec_l6Sign = true := by kernel_rfl
theorem k_spec_l6Is : chkFn Try.prog 173 s_spec_l6Is = true := by kernel_rfl
theorem k_spec_l6Next : chkFn Try.prog 174 s_spec_l6Next = true := by kernel_rfl
theorem k_spec_l6Block : chkFn Try.prog 175 s_spec_l6Block = true := by kernel_rfl
theorem k_impl_token : chkFn Try.prog 176 s_impl_token = true := by kernel_rfl
theorem k_impl_parser_next : chkFn Try.prog 177 s_impl_parser_next = true := by kernel_rfl
theorem k_impl_parser_name : chkFn Try.prog 178 s_impl_parser_name = true := by kernel_rfl
theorem k_impl_parser_need : chkFn Try.prog 179 s_impl_parser_need = true := by kernel_rfl
theorem k_impl_parser_block : chkFn Try.prog 180 s_impl_parser_block = true := by kernel_rfl
theorem k_laws_eqParamS : chkFn Try.prog 181 s_laws_eqParamS = true := by kernel_rfl
theorem k_laws_eqNode : chkFn Try.prog 182 s_laws_eqNode = true := by kernel_rfl
theorem k_spec_l5Letter : chkFn Try.prog 212 s_spec_l5Letter = true := by kernel_rfl
theorem k_spec_l5Digit : chkFn Try.prog 213 s_spec_l5Digit = true := by kernel_rfl
theorem k_spec_Number : chkFn Try.prog 214 s_spec_Number = true := by kernel_rfl
theorem k_spec_l5Sign : chkFn Try.prog 215 s_spec_l5Sign = true := by kernel_rfl
theorem k_spec_l6Bad : chkFn Try.prog 216 s_spec_l6Bad = true := by kernel_rfl
theorem k_spec_Keyword : chkFn Try.prog 217 s_spec_Keyword = true := by kernel_rfl
theorem k_spec_l6Stmt : chkFn Try.prog 218 s_spec_l6Stmt = true := by kernel_rfl
theorem k_impl_isLetter : chkFn Try.prog 219 s_impl_isLetter = true := by kernel_rfl
theorem k_impl_run : chkFn Try.prog 220 s_impl_run = true := by kernel_rfl
theorem k_impl_isDigit : chkFn Try.prog 221 s_impl_isDigit = true := by kernel_rfl
theorem k_impl_Number : chkFn Try.prog 222 s_impl_Number = true := by kernel_rfl
theorem k_strings_HasPrefix : chkFn Try.prog 223 s_strings_HasPrefix = true := by kernel_rfl
theorem k_strings_IndexByte : chkFn Try.prog 224 s_strings_IndexByte = true := by kernel_rfl
theorem k_impl_parser_isName : chkFn Try.prog 225 s_impl_parser_isName = true := by kernel_rfl
theorem k_impl_parser_statement : chkFn Try.prog 226 s_impl_parser_statement = true := by kernel_rfl
theorem k_laws_eqParam : chkFn Try.prog 227 s_laws_eqParam = true := by kernel_rfl
theorem k_laws_eqNodeS : chkFn Try.prog 228 s_laws_eqNodeS = true := by kernel_rfl
theorem k_spec_l6If : chkFn Try.prog 238 s_spec_l6If = true := by kernel_rfl
theorem k_spec_l6Select : chkFn Try.prog 239 s_spec_l6Select = true := by kernel_rfl
theorem k_spec_l6Begins : chkFn Try.prog 240 s_spec_l6Begins = true := by kernel_rfl
theorem k_spec_l6Simple : chkFn Try.prog 241 s_spec_l6Simple = true := by kernel_rfl
theorem k_spec_l6Expr : chkFn Try.prog 242 s_spec_l6Expr = true := by kernel_rfl
theorem k_spec_l6Node : chkFn Try.prog 243 s_spec_l6Node = true := by kernel_rfl
theorem k_stringslite_HasPrefix : chkFn Try.prog 244 s_stringslite_HasPrefix = true := by kernel_rfl
theorem k_stringslite_IndexByte : chkFn Try.prog 245 s_stringslite_IndexByte = true := by kernel_rfl
theorem k_impl_Keyword : chkFn Try.prog 246 s_impl_Keyword = true := by kernel_rfl
theorem k_impl_parser_branch : chkFn Try.prog 247 s_impl_parser_branch = true := by kernel_rfl
theorem k_impl_parser_expr : chkFn Try.prog 248 s_impl_parser_expr = true := by kernel_rfl
theorem k_impl_parser_choice : chkFn Try.prog 249 s_impl_parser_choice = true := by kernel_rfl
theorem k_impl_parser_plain : chkFn Try.prog 250 s_impl_parser_plain = true := by kernel_rfl
theorem k_spec_l6Case : chkFn Try.prog 252 s_spec_l6Case = true := by kernel_rfl
theorem k_spec_l6List : chkFn Try.prog 253 s_spec_l6List = true := by kernel_rfl
theorem k_spec_l6Recv : chkFn Try.prog 254 s_spec_l6Recv = true := by kernel_rfl
theorem k_spec_l6Two : chkFn Try.prog 255 s_spec_l6Two = true := by kernel_rfl
theorem k_spec_l6Sum : chkFn Try.prog 256 s_spec_l6Sum = true := by kernel_rfl
theorem k_slices_Contains_string_string : chkFn Try.prog 258 s_slices_Contains_string_string = true := by kernel_rfl
theorem k_impl_parser_sum : chkFn Try.prog 259 s_impl_parser_sum = true := by kernel_rfl
theorem k_impl_parser_received : chkFn Try.prog 260 s_impl_parser_received = true := by kernel_rfl
theorem k_impl_parser_two : chkFn Try.prog 261 s_impl_parser_two = true := by kernel_rfl
theorem k_impl_parser_exprs : chkFn Try.prog 262 s_impl_parser_exprs = true := by kernel_rfl
theorem k_impl_parser_oneExpr : chkFn Try.prog 263 s_impl_parser_oneExpr = true := by kernel_rfl
theorem k_spec_l6Product : chkFn Try.prog 264 s_spec_l6Product = true := by kernel_rfl
theorem k_slices_Index_string_string : chkFn Try.prog 265 s_slices_Index_string_string = true := by kernel_rfl
theorem k_impl_parser_product : chkFn Try.prog 266 s_impl_parser_product = true := by kernel_rfl
theorem k_spec_l6Atom : chkFn Try.prog 267 s_spec_l6Atom = true := by kernel_rfl
theorem k_impl_parser_atom : chkFn Try.prog 268 s_impl_parser_atom = true := by kernel_rfl
theorem k_spec_l6Built : chkFn Try.prog 269 s_spec_l6Built = true := by kernel_rfl
theorem k_impl_parser_number : chkFn Try.prog 270 s_impl_parser_number = true := by kernel_rfl
theorem k_impl_parser_special : chkFn Try.prog 271 s_impl_parser_special = true := by kernel_rfl
theorem tabL0_ok : ∀ p ∈ tabL0, chkFn Try.prog p.1 p.2 = true := by
  intro p hp
  simp only [tabL0, List.mem_cons, List.not_mem_nil, or_false] at hp
  rcases hp with rfl | rfl | rfl | rfl | rfl | rfl | rfl | rfl | rfl | rfl | rfl | rfl | rfl | rfl | rfl | rfl | rfl | rfl | rfl | rfl | rfl | rfl | rfl | rfl | rfl | rfl | rfl | rfl | rfl | rfl | rfl | rfl | rfl | rfl | rfl | rfl | rfl | rfl | rfl | rfl
  · exact k_laws_FnExactParse
  · exact k_spec_Parse
  · exact k_impl_Parse
  · exact k_laws_eqFuncS
  · exact k_laws_markFuncS
  · exact k_laws_heldFuncS
  · exact k_laws_markText
  · exact k_spec_Digits
  · exact k_impl_Digits
  · exact k_spec_l1In
  · exact k_impl_within
  · exact k_spec_Tokens
  · exact k_spec_l6Now
  · exact k_spec_l6Func
  · exact k_spec_l1Max
  · exact k_spec_Deep
  · exact k_impl_Tokens
  · exact k_impl_parser_take
  · exact k_impl_parser_function
  · exact k_impl_parser_here
  · exact k_impl_parser_failAt
  · exact k_impl_Deep
  · exact k_laws_eqFunc
  · exact k_laws_markParamS
  · exact k_laws_markNodeS
  · exact k_laws_heldParamS
  · exact k_laws_heldNodeS
  · exact k_spec_WordOk
  · exact k_impl_WordOk
  · exact k_spec_l5One
  · exact k_spec_l6Word
  · exact k_spec_l6Name
  · exact k_spec_l6Take
  · exact k_spec_l6Sign
  · exact k_spec_l6Is
  · exact k_spec_l6Next
  · exact k_spec_l6Block
  · exact k_impl_token
  · exact k_impl_parser_next
  · exact k_impl_parser_name
theorem tabL1_ok : ∀ p ∈ tabL1, chkFn Try.prog p.1 p.2 = true := by
  intro p hp
  simp only [tabL1, List.mem_cons, List.not_mem_nil, or_false] at hp
  rcases hp with rfl | rfl | rfl | rfl | rfl | rfl | rfl | rfl | rfl | rfl | rfl | rfl | rfl | rfl | rfl | rfl | rfl | rfl | rfl | rfl | rfl | rfl | rfl | rfl | rfl | rfl | rfl | rfl | rfl | rfl | rfl | rfl | rfl | rfl | rfl | rfl | rfl | rfl | rfl | rfl
  · exact k_impl_parser_need
  · exact k_impl_parser_block
  · exact k_laws_eqParamS
  · exact k_laws_eqNode
  · exact k_spec_l5Letter
  · exact k_spec_l5Digit
  · exact k_spec_Number
  · exact k_spec_l5Sign
  · exact k_spec_l6Bad
  · exact k_spec_Keyword
  · exact k_spec_l6Stmt
  · exact k_impl_isLetter
  · exact k_impl_run
  · exact k_impl_isDigit
  · exact k_impl_Number
  · exact k_strings_HasPrefix
  · exact k_strings_IndexByte
  · exact k_impl_parser_isName
  · exact k_impl_parser_statement
  · exact k_laws_eqParam
  · exact k_laws_eqNodeS
  · exact k_spec_l6If
  · exact k_spec_l6Select
  · exact k_spec_l6Begins
  · exact k_spec_l6Simple
  · exact k_spec_l6Expr
  · exact k_spec_l6Node
  · exact k_stringslite_HasPrefix
  · exact k_stringslite_IndexByte
  · exact k_impl_Keyword
  · exact k_impl_parser_branch
  · exact k_impl_parser_expr
  · exact k_impl_parser_choice
  · exact k_impl_parser_plain
  · exact k_spec_l6Case
  · exact k_spec_l6List
  · exact k_spec_l6Recv
  · exact k_spec_l6Two
  · exact k_spec_l6Sum
  · exact k_slices_Contains_string_string
theorem tabL2_ok : ∀ p ∈ tabL2, chkFn Try.prog p.1 p.2 = true := by
  intro p hp
  simp only [tabL2, List.mem_cons, List.not_mem_nil, or_false] at hp
  rcases hp with rfl | rfl | rfl | rfl | rfl | rfl | rfl | rfl | rfl | rfl | rfl | rfl | rfl
  · exact k_impl_parser_sum
  · exact k_impl_parser_received
  · exact k_impl_parser_two
  · exact k_impl_parser_exprs
  · exact k_impl_parser_oneExpr
  · exact k_spec_l6Product
  · exact k_slices_Index_string_string
  · exact k_impl_parser_product
  · exact k_spec_l6Atom
  · exact k_impl_parser_atom
  · exact k_spec_l6Built
  · exact k_impl_parser_number
  · exact k_impl_parser_special
theorem tabL_ok : ∀ p ∈ tabL, chkFn Try.prog p.1 p.2 = true := fun p hp => (List.mem_append.1 hp).elim ((fun p hp => (List.mem_append.1 hp).elim ((fun p hp => tabL0_ok p hp) p) (tabL1_ok p)) p) (tabL2_ok p)
theorem tab_ok : Tab Try.prog tab := fun f s h => by
  unfold tab at h
  rw [map_some_iff] at h
  obtain ⟨p, h1, rfl⟩ := h
  have h2 := List.find?_some h1
  simp only [beq_iff_eq] at h2
  subst h2
  exact tabL_ok p (List.mem_of_find?_eq_some h1)
end Go.Ev.G
