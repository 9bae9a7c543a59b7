/- The slim code of the functions that the statements of this cut reach: written by gen.py. Not trusted: YtcoigakalblkgaaEvChk.lean checks it against the given program. -/
import Derived.Test.YtcoigakalblkgaaEvRow
namespace Go.Ev.G
set_option linter.all false
abbrev laws_FnExactParse : Nat := 8
abbrev spec_Parse : Nat := 41
abbrev impl_Parse : Nat := 42
abbrev laws_eqFuncS : Nat := 43
abbrev laws_markFuncS : Nat := 44
abbrev laws_heldFuncS : Nat := 45
abbrev laws_markText : Nat := 57
abbrev spec_Digits : Nat := 62
abbrev impl_Digits : Nat := 68
abbrev spec_l1In : Nat := 73
abbrev impl_within : Nat := 75
abbrev spec_Tokens : Nat := 104
abbrev spec_l6Now : Nat := 105
abbrev spec_l6Func : Nat := 106
abbrev spec_l1Max : Nat := 107
abbrev spec_Deep : Nat := 108
abbrev impl_Tokens : Nat := 109
abbrev impl_parser_take : Nat := 110
abbrev impl_parser_function : Nat := 111
abbrev impl_parser_here : Nat := 112
abbrev impl_parser_failAt : Nat := 113
abbrev impl_Deep : Nat := 114
abbrev laws_eqFunc : Nat := 115
abbrev laws_markParamS : Nat := 116
abbrev laws_markNodeS : Nat := 117
abbrev laws_heldParamS : Nat := 118
abbrev laws_heldNodeS : Nat := 119
abbrev spec_WordOk : Nat := 122
abbrev impl_WordOk : Nat := 126
abbrev spec_l5One : Nat := 168
abbrev spec_l6Word : Nat := 169
abbrev spec_l6Name : Nat := 170
abbrev spec_l6Take : Nat := 171
abbrev spec_l6Sign : Nat := 172
abbrev spec_l6Is : Nat := 173
abbrev spec_l6Next : Nat := 174
abbrev spec_l6Block : Nat := 175
abbrev impl_token : Nat := 176
abbrev impl_parser_next : Nat := 177
abbrev impl_parser_name : Nat := 178
abbrev impl_parser_need : Nat := 179
abbrev impl_parser_block : Nat := 180
abbrev laws_eqParamS : Nat := 181
abbrev laws_eqNode : Nat := 182
abbrev spec_l5Letter : Nat := 212
abbrev spec_l5Digit : Nat := 213
abbrev spec_Number : Nat := 214
abbrev spec_l5Sign : Nat := 215
abbrev spec_l6Bad : Nat := 216
abbrev spec_Keyword : Nat := 217
abbrev spec_l6Stmt : Nat := 218
abbrev impl_isLetter : Nat := 219
abbrev impl_run : Nat := 220
abbrev impl_isDigit : Nat := 221
abbrev impl_Number : Nat := 222
abbrev strings_HasPrefix : Nat := 223
abbrev strings_IndexByte : Nat := 224
abbrev impl_parser_isName : Nat := 225
abbrev impl_parser_statement : Nat := 226
abbrev laws_eqParam : Nat := 227
abbrev laws_eqNodeS : Nat := 228
abbrev spec_l6If : Nat := 238
abbrev spec_l6Select : Nat := 239
abbrev spec_l6Begins : Nat := 240
abbrev spec_l6Simple : Nat := 241
abbrev spec_l6Expr : Nat := 242
abbrev spec_l6Node : Nat := 243
abbrev stringslite_HasPrefix : Nat := 244
abbrev stringslite_IndexByte : Nat := 245
abbrev impl_Keyword : Nat := 246
abbrev impl_parser_branch : Nat := 247
abbrev impl_parser_expr : Nat := 248
abbrev impl_parser_choice : Nat := 249
abbrev impl_parser_plain : Nat := 250
abbrev spec_l6Case : Nat := 252
abbrev spec_l6List : Nat := 253
abbrev spec_l6Recv : Nat := 254
abbrev spec_l6Two : Nat := 255
abbrev spec_l6Sum : Nat := 256
abbrev bytealg_IndexByteString : Nat := 257
abbrev slices_Contains_string_string : Nat := 258
abbrev impl_parser_sum : Nat := 259
abbrev impl_parser_received : Nat := 260
abbrev impl_parser_two : Nat := 261
abbrev impl_parser_exprs : Nat := 262
abbrev impl_parser_oneExpr : Nat := 263
abbrev spec_l6Product : Nat := 264
abbrev slices_Index_string_string : Nat := 265
abbrev impl_parser_product : Nat := 266
abbrev spec_l6Atom : Nat := 267
abbrev impl_parser_atom : Nat := 268
abbrev spec_l6Built : Nat := 269
abbrev impl_parser_number : Nat := 270
abbrev impl_parser_special : Nat := 271
/-- loop.example/g00286/laws.FnExactParse -/
def c_laws_FnExactParse : SCode :=
 .seq (.ops [⟨some 2,none,.mov (.c (.bool false))⟩])
 (.seq (.seq (.ops [⟨some 11,none,.mov (.t 0)⟩,⟨some 12,none,.slen (.t 11)⟩,⟨some 13,none,.cmp .gtr (.t 12) (.c (.int .i64 1048576))⟩])
 (.cond (.t 13) (.seq (.ops [⟨some 2,none,.mov (.c (.bool true))⟩])
 (.ret))
 (.skip)))
 (.seq (.ops [⟨some 15,none,.mov (.t 0)⟩,⟨some 16,none,.callr spec_Parse [.t 15]⟩,⟨some 14,none,.mov (.t 16)⟩,⟨some 17,none,.ext (.t 14) 0⟩,⟨some 18,none,.ext (.t 14) 1⟩,⟨some 3,none,.mov (.t 17)⟩,⟨some 4,none,.mov (.t 18)⟩])
 (.seq (.ops [⟨some 20,none,.mov (.t 0)⟩,⟨some 21,none,.call impl_Parse [.t 20]⟩,⟨some 19,none,.mov (.t 21)⟩,⟨some 22,none,.ext (.t 19) 0⟩,⟨some 23,none,.ext (.t 19) 1⟩,⟨some 5,none,.mov (.t 22)⟩,⟨some 6,none,.mov (.t 23)⟩])
 (.seq (.seq (.ops [⟨some 24,none,.mov (.t 5)⟩,⟨some 25,none,.mov (.t 3)⟩,⟨some 26,none,.callr laws_eqFuncS [.t 24,.t 25]⟩,⟨some 27,none,.not (.t 26)⟩,⟨some 28,none,.mov (.t 27)⟩,⟨some 29,(some (28,false)),.mov (.t 6)⟩,⟨some 30,(some (28,false)),.mov (.t 4)⟩,⟨some 31,(some (28,false)),.cmp .neq (.t 29) (.t 30)⟩,⟨some 32,none,.pick (.t 28) (.c (.bool true)) (.t 31)⟩])
 (.cond (.t 32) (.seq (.ops [⟨some 2,none,.mov (.c (.bool false))⟩])
 (.ret))
 (.skip)))
 (.seq (.ops [⟨some 7,none,.mov (.c (.int .i64 1))⟩])
 (.seq (.ops [⟨some 33,none,.mov (.t 5)⟩,⟨some 34,none,.mov (.t 7)⟩,⟨some 35,none,.callb laws_markFuncS [.t 33,.t 34] [true,false]⟩,⟨some 7,none,.mov (.t 35)⟩])
 (.seq (.ops [⟨some 8,none,.mov (.c (.int .i64 1))⟩])
 (.seq (.ops [⟨some 36,none,.mov (.t 5)⟩,⟨some 37,none,.mov (.t 8)⟩,⟨some 38,none,.callr laws_heldFuncS [.t 36,.t 37]⟩,⟨some 8,none,.mov (.t 38)⟩])
 (.seq (.seq (.ops [⟨some 39,none,.mov (.t 8)⟩,⟨some 40,none,.cmp .lss (.t 39) (.c (.int .i64 0))⟩])
 (.cond (.t 40) (.seq (.ops [⟨some 2,none,.mov (.c (.bool false))⟩])
 (.ret))
 (.skip)))
 (.seq (.seq (.ops [⟨some 41,none,.mov (.t 8)⟩,⟨some 42,none,.mov (.t 7)⟩,⟨some 43,none,.cmp .neq (.t 41) (.t 42)⟩])
 (.cond (.t 43) (.seq (.ops [⟨some 2,none,.mov (.c (.bool false))⟩])
 (.ret))
 (.skip)))
 (.seq (.ops [⟨some 45,none,.mov (.t 0)⟩,⟨some 46,none,.callr impl_Parse [.t 45]⟩,⟨some 44,none,.mov (.t 46)⟩,⟨some 47,none,.ext (.t 44) 0⟩,⟨some 48,none,.ext (.t 44) 1⟩,⟨some 9,none,.mov (.t 47)⟩,⟨some 10,none,.mov (.t 48)⟩])
 (.seq (.seq (.ops [⟨some 49,none,.mov (.t 9)⟩,⟨some 50,none,.mov (.t 3)⟩,⟨some 51,none,.callr laws_eqFuncS [.t 49,.t 50]⟩,⟨some 52,none,.not (.t 51)⟩,⟨some 53,none,.mov (.t 52)⟩,⟨some 54,(some (53,false)),.mov (.t 10)⟩,⟨some 55,(some (53,false)),.mov (.t 4)⟩,⟨some 56,(some (53,false)),.cmp .neq (.t 54) (.t 55)⟩,⟨some 57,none,.pick (.t 53) (.c (.bool true)) (.t 56)⟩])
 (.cond (.t 57) (.seq (.ops [⟨some 2,none,.mov (.c (.bool false))⟩])
 (.ret))
 (.skip)))
 (.seq (.ops [⟨some 8,none,.mov (.c (.int .i64 1))⟩])
 (.seq (.ops [⟨some 58,none,.mov (.t 5)⟩,⟨some 59,none,.mov (.t 8)⟩,⟨some 60,none,.callr laws_heldFuncS [.t 58,.t 59]⟩,⟨some 8,none,.mov (.t 60)⟩])
 (.seq (.seq (.ops [⟨some 61,none,.mov (.t 8)⟩,⟨some 62,none,.cmp .lss (.t 61) (.c (.int .i64 0))⟩])
 (.cond (.t 62) (.seq (.ops [⟨some 2,none,.mov (.c (.bool false))⟩])
 (.ret))
 (.skip)))
 (.seq (.seq (.ops [⟨some 63,none,.mov (.t 8)⟩,⟨some 64,none,.mov (.t 7)⟩,⟨some 65,none,.cmp .neq (.t 63) (.t 64)⟩])
 (.cond (.t 65) (.seq (.ops [⟨some 2,none,.mov (.c (.bool false))⟩])
 (.ret))
 (.skip)))
 (.seq (.ops [⟨some 2,none,.mov (.c (.bool true))⟩])
 (.ret))))))))))))))))))
def s_laws_FnExactParse : SFn := ⟨1, 66, c_laws_FnExactParse, [.t 2]⟩
def b_spec_Parse_0 : SCode :=
 .seq (.seq (.ops [⟨some 25,none,.mov (.t 7)⟩,⟨some 26,none,.nck (.t 25)⟩,⟨some 27,none,.faddr 2 (.t 26)⟩,⟨some 28,none,.load none (.t 27)⟩,⟨some 29,none,.cmp .lss (.t 28) (.c (.int .i64 0))⟩,⟨some 30,none,.mov (.t 29)⟩,⟨some 31,(some (30,true)),.mov (.t 7)⟩,⟨some 32,(some (30,true)),.callb spec_l6Now [.t 31] [true]⟩,⟨some 33,(some (30,true)),.fld 0 none (.t 32)⟩,⟨some 34,(some (30,true)),.cmp .neq (.t 33) (.c (.int .i64 0))⟩,⟨some 35,none,.pick (.t 30) (.t 34) (.c (.bool false))⟩])
 (.cond (.t 35) (.skip)
 (.seq (.keep [4,7,8,9]) (.exit 0))))
 (.block 1 (.seq (.ops [⟨some 36,none,.mov (.t 7)⟩,⟨some 37,none,.callb spec_l6Func [.t 36] [true]⟩,⟨some 10,none,.alloc [.v (.string ⟨#[]⟩),.s 2 [],.v (.int .i64 0),.v (.string ⟨#[]⟩),.v (.int .i64 0),.s 4 []]⟩,⟨none,none,.store 6 (.t 10) (.t 37)⟩])
 (.seq (.keep [10010,4,7,8,9,10]) (.seq (.ops [⟨some 38,none,.mov (.t 8)⟩,⟨some 39,none,.load (some 6) (.t 10)⟩,⟨some 40,none,.lit 6 [.t 39]⟩,⟨some 41,none,.app 6 96 (.t 38) (.t 40)⟩,⟨some 8,none,.mov (.t 41)⟩])
 (.ops [⟨some 42,none,.mov (.t 9)⟩,⟨some 43,none,.faddr 2 (.t 10)⟩,⟨some 44,none,.load (some 4) (.t 43)⟩,⟨some 45,none,.callr spec_Deep [.t 44]⟩,⟨some 46,none,.callr spec_l1Max [.t 42,.t 45]⟩,⟨some 9,none,.mov (.t 46)⟩])))))
/-- loop.example/g00286/spec.Parse -/
def c_spec_Parse : SCode :=
 .seq (.ops [⟨some 2,none,.mov (.n 6)⟩,⟨some 3,none,.mov (.c (.int .i64 0))⟩])
 (.seq (.ops [⟨some 11,none,.lit 6 []⟩,⟨some 4,none,.mov (.t 11)⟩])
 (.seq (.ops [⟨some 13,none,.mov (.t 0)⟩,⟨some 14,none,.call spec_Tokens [.t 13]⟩,⟨some 12,none,.mov (.t 14)⟩,⟨some 15,none,.ext (.t 12) 0⟩,⟨some 16,none,.ext (.t 12) 1⟩,⟨some 5,none,.mov (.t 15)⟩,⟨some 6,none,.mov (.t 16)⟩])
 (.seq (.seq (.ops [⟨some 17,none,.mov (.t 6)⟩,⟨some 18,none,.cmp .geq (.t 17) (.c (.int .i64 0))⟩])
 (.cond (.t 18) (.seq (.ops [⟨some 19,none,.mov (.t 4)⟩,⟨some 20,none,.mov (.t 6)⟩,⟨some 2,none,.mov (.t 19)⟩,⟨some 3,none,.mov (.t 20)⟩])
 (.ret))
 (.skip)))
 (.seq (.ops [⟨some 21,none,.mov (.t 5)⟩,⟨some 22,none,.build [.s 4 [],.v (.int .i64 0),.v (.int .i64 0)] [(0,1,.t 21),(2,1,.c (.int .i64 (-1)))]⟩,⟨some 23,none,.box 3 (.t 22)⟩,⟨some 7,none,.mov (.t 23)⟩])
 (.seq (.ops [⟨some 24,none,.lit 6 []⟩,⟨some 8,none,.mov (.t 24)⟩])
 (.seq (.ops [⟨some 9,none,.mov (.c (.int .i64 0))⟩])
 (.seq (.block 0 (.loop [4,7,8,9] b_spec_Parse_0))
 (.seq (.seq (.ops [⟨some 47,none,.mov (.t 7)⟩,⟨some 48,none,.nck (.t 47)⟩,⟨some 49,none,.faddr 2 (.t 48)⟩,⟨some 50,none,.load none (.t 49)⟩,⟨some 51,none,.cmp .geq (.t 50) (.c (.int .i64 0))⟩])
 (.cond (.t 51) (.seq (.ops [⟨some 52,none,.mov (.t 4)⟩,⟨some 53,none,.mov (.t 7)⟩,⟨some 54,none,.nck (.t 53)⟩,⟨some 55,none,.faddr 2 (.t 54)⟩,⟨some 56,none,.load none (.t 55)⟩,⟨some 2,none,.mov (.t 52)⟩,⟨some 3,none,.mov (.t 56)⟩])
 (.ret))
 (.skip)))
 (.seq (.seq (.ops [⟨some 57,none,.mov (.t 8)⟩,⟨some 58,none,.len (.t 57)⟩,⟨some 59,none,.cmp .gtr (.t 58) (.c (.int .i64 40))⟩,⟨some 60,none,.mov (.t 59)⟩,⟨some 61,(some (60,false)),.mov (.t 9)⟩,⟨some 62,(some (60,false)),.cmp .gtr (.t 61) (.c (.int .i64 20))⟩,⟨some 63,none,.pick (.t 60) (.c (.bool true)) (.t 62)⟩])
 (.cond (.t 63) (.seq (.ops [⟨some 64,none,.mov (.t 4)⟩,⟨some 2,none,.mov (.t 64)⟩,⟨some 3,none,.mov (.c (.int .i64 0))⟩])
 (.ret))
 (.skip)))
 (.seq (.ops [⟨some 65,none,.mov (.t 8)⟩,⟨some 2,none,.mov (.t 65)⟩,⟨some 3,none,.mov (.c (.int .i64 (-1)))⟩])
 (.ret)))))))))))
def s_spec_Parse : SFn := ⟨1, 66, c_spec_Parse, [.t 2, .t 3]⟩
def b_impl_Parse_0 : SCode :=
 .seq (.seq (.ops [⟨some 23,none,.mov (.t 6)⟩,⟨some 24,none,.callb impl_parser_take [.t 23,.c (.string ⟨#[102,117,110,99]⟩)] [true,false]⟩])
 (.cond (.t 24) (.skip)
 (.seq (.keep [6,7]) (.exit 0))))
 (.block 1 (.seq (.ops [⟨some 25,none,.mov (.t 6)⟩,⟨some 26,none,.callb impl_parser_function [.t 25] [true]⟩,⟨some 8,none,.alloc [.v (.string ⟨#[]⟩),.s 2 [],.v (.int .i64 0),.v (.string ⟨#[]⟩),.v (.int .i64 0),.s 4 []]⟩,⟨none,none,.store 6 (.t 8) (.t 26)⟩])
 (.ops [⟨some 27,none,.mov (.t 7)⟩,⟨some 28,none,.load (some 6) (.t 8)⟩,⟨some 29,none,.lit 6 [.t 28]⟩,⟨some 30,none,.app 6 96 (.t 27) (.t 29)⟩,⟨some 7,none,.mov (.t 30)⟩])))
def b_impl_Parse_1 : SCode :=
 .seq (.ops [⟨some 55,none,.cmp .lss (.t 54) (.t 53)⟩])
 (.seq (.cond (.t 55) (.skip)
 (.seq (.keep [7]) (.exit 2)))
 (.seq (.block 3 (.seq (.ops [⟨some 56,none,.ixa 6 (.t 52) (.t 54)⟩,⟨some 57,none,.load (some 6) (.t 56)⟩,⟨some 10,none,.alloc [.v (.string ⟨#[]⟩),.s 2 [],.v (.int .i64 0),.v (.string ⟨#[]⟩),.v (.int .i64 0),.s 4 []]⟩,⟨none,none,.store 10006 (.t 10) (.t 57)⟩])
 (.seq (.ops [⟨some 58,none,.faddr 2 (.t 10)⟩,⟨some 59,none,.load (some 4) (.t 58)⟩,⟨some 60,none,.callr impl_Deep [.t 59]⟩,⟨some 61,none,.cmp .gtr (.t 60) (.c (.int .i64 20))⟩])
 (.cond (.t 61) (.seq (.ops [⟨some 2,none,.mov (.n 6)⟩,⟨some 3,none,.mov (.c (.int .i64 0))⟩])
 (.seq (.keep [2,3]) .ret))
 (.skip)))))
 (.ops [⟨some 62,none,.ari .add (.t 54) (.c (.int .i64 1))⟩,⟨some 54,none,.mov (.t 62)⟩])))
/-- loop.example/g00286/impl.Parse -/
def c_impl_Parse : SCode :=
 .seq (.ops [⟨some 2,none,.mov (.n 6)⟩,⟨some 3,none,.mov (.c (.int .i64 0))⟩])
 (.seq (.ops [⟨some 12,none,.mov (.t 0)⟩,⟨some 13,none,.call impl_Tokens [.t 12]⟩,⟨some 11,none,.mov (.t 13)⟩,⟨some 14,none,.ext (.t 11) 0⟩,⟨some 15,none,.ext (.t 11) 1⟩,⟨some 4,none,.mov (.t 14)⟩,⟨some 5,none,.mov (.t 15)⟩])
 (.seq (.seq (.ops [⟨some 16,none,.mov (.t 5)⟩,⟨some 17,none,.cmp .geq (.t 16) (.c (.int .i64 0))⟩])
 (.cond (.t 17) (.seq (.ops [⟨some 18,none,.mov (.t 5)⟩,⟨some 2,none,.mov (.n 6)⟩,⟨some 3,none,.mov (.t 18)⟩])
 (.ret))
 (.skip)))
 (.seq (.ops [⟨some 19,none,.mov (.t 4)⟩,⟨some 20,none,.build [.s 4 [],.v (.int .i64 0),.v (.int .i64 0)] [(0,1,.t 19),(2,1,.c (.int .i64 (-1)))]⟩,⟨some 21,none,.box 3 (.t 20)⟩,⟨some 6,none,.mov (.t 21)⟩])
 (.seq (.ops [⟨some 22,none,.lit 6 []⟩,⟨some 7,none,.mov (.t 22)⟩])
 (.seq (.block 0 (.loop [6,7] b_impl_Parse_0))
 (.seq (.seq (.ops [⟨some 31,none,.mov (.t 6)⟩,⟨some 32,none,.callb impl_parser_here [.t 31] [true]⟩,⟨some 33,none,.fld 0 none (.t 32)⟩,⟨some 34,none,.cmp .neq (.t 33) (.c (.int .i64 0))⟩])
 (.cond (.t 34) (.ops [⟨some 35,none,.mov (.t 6)⟩,⟨some 36,none,.mov (.t 6)⟩,⟨some 37,none,.callb impl_parser_here [.t 36] [true]⟩,⟨some 38,none,.fld 3 none (.t 37)⟩,⟨some 39,none,.callb impl_parser_failAt [.t 35,.t 38] [true,false]⟩])
 (.skip)))
 (.seq (.seq (.ops [⟨some 40,none,.mov (.t 6)⟩,⟨some 41,none,.nck (.t 40)⟩,⟨some 42,none,.faddr 2 (.t 41)⟩,⟨some 43,none,.load none (.t 42)⟩,⟨some 44,none,.cmp .geq (.t 43) (.c (.int .i64 0))⟩])
 (.cond (.t 44) (.seq (.ops [⟨some 45,none,.mov (.t 6)⟩,⟨some 46,none,.nck (.t 45)⟩,⟨some 47,none,.faddr 2 (.t 46)⟩,⟨some 48,none,.load none (.t 47)⟩,⟨some 2,none,.mov (.n 6)⟩,⟨some 3,none,.mov (.t 48)⟩])
 (.ret))
 (.skip)))
 (.seq (.seq (.ops [⟨some 49,none,.mov (.t 7)⟩,⟨some 50,none,.len (.t 49)⟩,⟨some 51,none,.cmp .gtr (.t 50) (.c (.int .i64 40))⟩])
 (.cond (.t 51) (.seq (.ops [⟨some 2,none,.mov (.n 6)⟩,⟨some 3,none,.mov (.c (.int .i64 0))⟩])
 (.ret))
 (.skip)))
 (.seq (.seq (.ops [⟨some 52,none,.mov (.t 7)⟩,⟨some 53,none,.len (.t 52)⟩,⟨some 54,none,.mov (.c (.int .i64 0))⟩])
 (.block 2 (.loop [7,52,53,54] b_impl_Parse_1)))
 (.seq (.ops [⟨some 63,none,.mov (.t 7)⟩,⟨some 2,none,.mov (.t 63)⟩,⟨some 3,none,.mov (.c (.int .i64 (-1)))⟩])
 (.ret)))))))))))
def s_impl_Parse : SFn := ⟨1, 64, c_impl_Parse, [.t 2, .t 3]⟩
def b_laws_eqFuncS_0 : SCode :=
 .seq (.seq (.ops [⟨some 11,none,.mov (.t 5)⟩,⟨some 12,none,.mov (.t 0)⟩,⟨some 13,none,.len (.t 12)⟩,⟨some 14,none,.cmp .lss (.t 11) (.t 13)⟩])
 (.cond (.t 14) (.skip)
 (.seq (.keep []) (.exit 0))))
 (.seq (.block 1 (.seq (.ops [⟨some 17,none,.mov (.t 0)⟩,⟨some 18,none,.mov (.t 5)⟩,⟨some 19,none,.ixa 6 (.t 17) (.t 18)⟩,⟨some 20,none,.load (some 6) (.t 19)⟩,⟨some 21,none,.mov (.t 1)⟩,⟨some 22,none,.mov (.t 5)⟩,⟨some 23,none,.ixa 6 (.t 21) (.t 22)⟩,⟨some 24,none,.load (some 6) (.t 23)⟩,⟨some 25,none,.callr laws_eqFunc [.t 20,.t 24]⟩,⟨some 26,none,.not (.t 25)⟩])
 (.cond (.t 26) (.seq (.ops [⟨some 4,none,.mov (.c (.bool false))⟩])
 (.seq (.keep [4]) .ret))
 (.skip))))
 (.ops [⟨some 15,none,.mov (.t 5)⟩,⟨some 16,none,.ari .add (.t 15) (.c (.int .i64 1))⟩,⟨some 5,none,.mov (.t 16)⟩]))
/-- loop.example/g00286/laws.eqFuncS -/
def c_laws_eqFuncS : SCode :=
 .seq (.ops [⟨some 4,none,.mov (.c (.bool false))⟩])
 (.seq (.seq (.ops [⟨some 6,none,.mov (.t 0)⟩,⟨some 7,none,.len (.t 6)⟩,⟨some 8,none,.mov (.t 1)⟩,⟨some 9,none,.len (.t 8)⟩,⟨some 10,none,.cmp .neq (.t 7) (.t 9)⟩])
 (.cond (.t 10) (.seq (.ops [⟨some 4,none,.mov (.c (.bool false))⟩])
 (.ret))
 (.skip)))
 (.seq (.seq (.ops [⟨some 5,none,.mov (.c (.int .i64 0))⟩])
 (.block 0 (.loop [0,1,5] b_laws_eqFuncS_0)))
 (.seq (.ops [⟨some 4,none,.mov (.c (.bool true))⟩])
 (.ret))))
def s_laws_eqFuncS : SFn := ⟨2, 27, c_laws_eqFuncS, [.t 4]⟩
def b_laws_markFuncS_0 : SCode :=
 .seq (.seq (.ops [⟨some 6,none,.mov (.t 5)⟩,⟨some 7,none,.mov (.t 0)⟩,⟨some 8,none,.len (.t 7)⟩,⟨some 9,none,.cmp .lss (.t 6) (.t 8)⟩])
 (.cond (.t 9) (.skip)
 (.seq (.keep [1]) (.exit 0))))
 (.seq (.block 1 (.seq (.ops [⟨some 12,none,.mov (.t 0)⟩,⟨some 13,none,.mov (.t 5)⟩,⟨some 14,none,.mov (.t 1)⟩,⟨some 15,none,.callr laws_markText [.t 14]⟩,⟨some 16,none,.ixa 6 (.t 12) (.t 13)⟩,⟨some 17,none,.faddr 0 (.t 16)⟩,⟨none,none,.store 1 (.t 17) (.t 15)⟩])
 (.seq (.ops [⟨some 18,none,.mov (.t 1)⟩,⟨some 19,none,.ari .add (.t 18) (.c (.int .i64 1))⟩,⟨some 1,none,.mov (.t 19)⟩])
 (.seq (.ops [⟨some 20,none,.mov (.t 0)⟩,⟨some 21,none,.mov (.t 5)⟩,⟨some 22,none,.ixa 6 (.t 20) (.t 21)⟩,⟨some 23,none,.faddr 1 (.t 22)⟩,⟨some 24,none,.load none (.t 23)⟩,⟨some 25,none,.mov (.t 1)⟩,⟨some 26,none,.callb laws_markParamS [.t 24,.t 25] [true,false]⟩,⟨some 1,none,.mov (.t 26)⟩])
 (.seq (.ops [⟨some 27,none,.mov (.t 0)⟩,⟨some 28,none,.mov (.t 5)⟩,⟨some 29,none,.mov (.t 1)⟩,⟨some 30,none,.ixa 6 (.t 27) (.t 28)⟩,⟨some 31,none,.faddr 2 (.t 30)⟩,⟨some 32,none,.faddr 0 (.t 31)⟩,⟨none,none,.store 1 (.t 32) (.t 29)⟩])
 (.seq (.ops [⟨some 33,none,.mov (.t 1)⟩,⟨some 34,none,.ari .add (.t 33) (.c (.int .i64 1))⟩,⟨some 1,none,.mov (.t 34)⟩])
 (.seq (.ops [⟨some 35,none,.mov (.t 0)⟩,⟨some 36,none,.mov (.t 5)⟩,⟨some 37,none,.mov (.t 1)⟩,⟨some 38,none,.callr laws_markText [.t 37]⟩,⟨some 39,none,.ixa 6 (.t 35) (.t 36)⟩,⟨some 40,none,.faddr 2 (.t 39)⟩,⟨some 41,none,.faddr 1 (.t 40)⟩,⟨none,none,.store 1 (.t 41) (.t 38)⟩])
 (.seq (.ops [⟨some 42,none,.mov (.t 1)⟩,⟨some 43,none,.ari .add (.t 42) (.c (.int .i64 1))⟩,⟨some 1,none,.mov (.t 43)⟩])
 (.seq (.ops [⟨some 44,none,.mov (.t 0)⟩,⟨some 45,none,.mov (.t 5)⟩,⟨some 46,none,.mov (.t 1)⟩,⟨some 47,none,.ixa 6 (.t 44) (.t 45)⟩,⟨some 48,none,.faddr 2 (.t 47)⟩,⟨some 49,none,.faddr 2 (.t 48)⟩,⟨none,none,.store 1 (.t 49) (.t 46)⟩])
 (.seq (.ops [⟨some 50,none,.mov (.t 1)⟩,⟨some 51,none,.ari .add (.t 50) (.c (.int .i64 1))⟩,⟨some 1,none,.mov (.t 51)⟩])
 (.ops [⟨some 52,none,.mov (.t 0)⟩,⟨some 53,none,.mov (.t 5)⟩,⟨some 54,none,.ixa 6 (.t 52) (.t 53)⟩,⟨some 55,none,.faddr 2 (.t 54)⟩,⟨some 56,none,.faddr 3 (.t 55)⟩,⟨some 57,none,.load none (.t 56)⟩,⟨some 58,none,.mov (.t 1)⟩,⟨some 59,none,.callb laws_markNodeS [.t 57,.t 58] [true,false]⟩,⟨some 1,none,.mov (.t 59)⟩])))))))))))
 (.ops [⟨some 10,none,.mov (.t 5)⟩,⟨some 11,none,.ari .add (.t 10) (.c (.int .i64 1))⟩,⟨some 5,none,.mov (.t 11)⟩]))
/-- loop.example/g00286/laws.markFuncS -/
def c_laws_markFuncS : SCode :=
 .seq (.ops [⟨some 4,none,.mov (.c (.int .i64 0))⟩])
 (.seq (.seq (.ops [⟨some 5,none,.mov (.c (.int .i64 0))⟩])
 (.block 0 (.loop [0,1,5] b_laws_markFuncS_0)))
 (.seq (.ops [⟨some 60,none,.mov (.t 1)⟩,⟨some 4,none,.mov (.t 60)⟩])
 (.ret)))
def s_laws_markFuncS : SFn := ⟨2, 61, c_laws_markFuncS, [.t 4]⟩
def b_laws_heldFuncS_0 : SCode :=
 .seq (.seq (.ops [⟨some 6,none,.mov (.t 5)⟩,⟨some 7,none,.mov (.t 0)⟩,⟨some 8,none,.len (.t 7)⟩,⟨some 9,none,.cmp .lss (.t 6) (.t 8)⟩])
 (.cond (.t 9) (.skip)
 (.seq (.keep [1]) (.exit 0))))
 (.seq (.block 1 (.seq (.seq (.ops [⟨some 12,none,.mov (.t 0)⟩,⟨some 13,none,.mov (.t 5)⟩,⟨some 14,none,.ixa 6 (.t 12) (.t 13)⟩,⟨some 15,none,.faddr 0 (.t 14)⟩,⟨some 16,none,.load none (.t 15)⟩,⟨some 17,none,.mov (.t 1)⟩,⟨some 18,none,.callr laws_markText [.t 17]⟩,⟨some 19,none,.cmp .neq (.t 16) (.t 18)⟩])
 (.cond (.t 19) (.seq (.ops [⟨some 4,none,.mov (.c (.int .i64 (-1)))⟩])
 (.seq (.keep [4]) .ret))
 (.skip)))
 (.seq (.ops [⟨some 20,none,.mov (.t 1)⟩,⟨some 21,none,.ari .add (.t 20) (.c (.int .i64 1))⟩,⟨some 1,none,.mov (.t 21)⟩])
 (.seq (.ops [⟨some 22,none,.mov (.t 0)⟩,⟨some 23,none,.mov (.t 5)⟩,⟨some 24,none,.ixa 6 (.t 22) (.t 23)⟩,⟨some 25,none,.faddr 1 (.t 24)⟩,⟨some 26,none,.load none (.t 25)⟩,⟨some 27,none,.mov (.t 1)⟩,⟨some 28,none,.callr laws_heldParamS [.t 26,.t 27]⟩,⟨some 1,none,.mov (.t 28)⟩])
 (.seq (.seq (.ops [⟨some 29,none,.mov (.t 1)⟩,⟨some 30,none,.cmp .lss (.t 29) (.c (.int .i64 0))⟩])
 (.cond (.t 30) (.seq (.ops [⟨some 4,none,.mov (.c (.int .i64 (-1)))⟩])
 (.seq (.keep [4]) .ret))
 (.skip)))
 (.seq (.seq (.ops [⟨some 31,none,.mov (.t 0)⟩,⟨some 32,none,.mov (.t 5)⟩,⟨some 33,none,.ixa 6 (.t 31) (.t 32)⟩,⟨some 34,none,.faddr 2 (.t 33)⟩,⟨some 35,none,.faddr 0 (.t 34)⟩,⟨some 36,none,.load none (.t 35)⟩,⟨some 37,none,.mov (.t 1)⟩,⟨some 38,none,.cmp .neq (.t 36) (.t 37)⟩])
 (.cond (.t 38) (.seq (.ops [⟨some 4,none,.mov (.c (.int .i64 (-1)))⟩])
 (.seq (.keep [4]) .ret))
 (.skip)))
 (.seq (.ops [⟨some 39,none,.mov (.t 1)⟩,⟨some 40,none,.ari .add (.t 39) (.c (.int .i64 1))⟩,⟨some 1,none,.mov (.t 40)⟩])
 (.seq (.seq (.ops [⟨some 41,none,.mov (.t 0)⟩,⟨some 42,none,.mov (.t 5)⟩,⟨some 43,none,.ixa 6 (.t 41) (.t 42)⟩,⟨some 44,none,.faddr 2 (.t 43)⟩,⟨some 45,none,.faddr 1 (.t 44)⟩,⟨some 46,none,.load none (.t 45)⟩,⟨some 47,none,.mov (.t 1)⟩,⟨some 48,none,.callr laws_markText [.t 47]⟩,⟨some 49,none,.cmp .neq (.t 46) (.t 48)⟩])
 (.cond (.t 49) (.seq (.ops [⟨some 4,none,.mov (.c (.int .i64 (-1)))⟩])
 (.seq (.keep [4]) .ret))
 (.skip)))
 (.seq (.ops [⟨some 50,none,.mov (.t 1)⟩,⟨some 51,none,.ari .add (.t 50) (.c (.int .i64 1))⟩,⟨some 1,none,.mov (.t 51)⟩])
 (.seq (.seq (.ops [⟨some 52,none,.mov (.t 0)⟩,⟨some 53,none,.mov (.t 5)⟩,⟨some 54,none,.ixa 6 (.t 52) (.t 53)⟩,⟨some 55,none,.faddr 2 (.t 54)⟩,⟨some 56,none,.faddr 2 (.t 55)⟩,⟨some 57,none,.load none (.t 56)⟩,⟨some 58,none,.mov (.t 1)⟩,⟨some 59,none,.cmp .neq (.t 57) (.t 58)⟩])
 (.cond (.t 59) (.seq (.ops [⟨some 4,none,.mov (.c (.int .i64 (-1)))⟩])
 (.seq (.keep [4]) .ret))
 (.skip)))
 (.seq (.ops [⟨some 60,none,.mov (.t 1)⟩,⟨some 61,none,.ari .add (.t 60) (.c (.int .i64 1))⟩,⟨some 1,none,.mov (.t 61)⟩])
 (.seq (.ops [⟨some 62,none,.mov (.t 0)⟩,⟨some 63,none,.mov (.t 5)⟩,⟨some 64,none,.ixa 6 (.t 62) (.t 63)⟩,⟨some 65,none,.faddr 2 (.t 64)⟩,⟨some 66,none,.faddr 3 (.t 65)⟩,⟨some 67,none,.load none (.t 66)⟩,⟨some 68,none,.mov (.t 1)⟩,⟨some 69,none,.callr laws_heldNodeS [.t 67,.t 68]⟩,⟨some 1,none,.mov (.t 69)⟩])
 (.seq (.ops [⟨some 70,none,.mov (.t 1)⟩,⟨some 71,none,.cmp .lss (.t 70) (.c (.int .i64 0))⟩])
 (.cond (.t 71) (.seq (.ops [⟨some 4,none,.mov (.c (.int .i64 (-1)))⟩])
 (.seq (.keep [4]) .ret))
 (.skip)))))))))))))))
 (.ops [⟨some 10,none,.mov (.t 5)⟩,⟨some 11,none,.ari .add (.t 10) (.c (.int .i64 1))⟩,⟨some 5,none,.mov (.t 11)⟩]))
/-- loop.example/g00286/laws.heldFuncS -/
def c_laws_heldFuncS : SCode :=
 .seq (.ops [⟨some 4,none,.mov (.c (.int .i64 0))⟩])
 (.seq (.seq (.ops [⟨some 5,none,.mov (.c (.int .i64 0))⟩])
 (.block 0 (.loop [0,1,5] b_laws_heldFuncS_0)))
 (.seq (.ops [⟨some 72,none,.mov (.t 1)⟩,⟨some 4,none,.mov (.t 72)⟩])
 (.ret)))
def s_laws_heldFuncS : SFn := ⟨2, 73, c_laws_heldFuncS, [.t 4]⟩
def b_laws_markText_0 : SCode :=
 .seq (.seq (.ops [⟨some 6,none,.mov (.t 0)⟩,⟨some 7,none,.cmp .gtr (.t 6) (.c (.int .i64 0))⟩])
 (.cond (.t 7) (.skip)
 (.seq (.keep [3]) (.exit 0))))
 (.block 1 (.seq (.ops [⟨some 8,none,.mov (.t 0)⟩,⟨some 9,none,.ari .rem (.t 8) (.c (.int .i64 10))⟩,⟨some 10,none,.ari .add (.c (.int .i64 48)) (.t 9)⟩,⟨some 11,none,.conv .u8 (.t 10)⟩,⟨some 12,none,.lit 1 [.t 11]⟩,⟨some 13,none,.sob (.t 12)⟩,⟨some 14,none,.mov (.t 3)⟩,⟨some 15,none,.cat (.t 13) (.t 14)⟩,⟨some 3,none,.mov (.t 15)⟩])
 (.ops [⟨some 16,none,.mov (.t 0)⟩,⟨some 17,none,.ari .quo (.t 16) (.c (.int .i64 10))⟩,⟨some 0,none,.mov (.t 17)⟩])))
/-- loop.example/g00286/laws.markText -/
def c_laws_markText : SCode :=
 .seq (.ops [⟨some 2,none,.mov (.c (.string ⟨#[]⟩))⟩])
 (.seq (.seq (.ops [⟨some 4,none,.mov (.t 0)⟩,⟨some 5,none,.cmp .leq (.t 4) (.c (.int .i64 0))⟩])
 (.cond (.t 5) (.seq (.ops [⟨some 2,none,.mov (.c (.string ⟨#[109,48]⟩))⟩])
 (.ret))
 (.skip)))
 (.seq (.ops [⟨some 3,none,.mov (.c (.string ⟨#[]⟩))⟩])
 (.seq (.block 0 (.loop [0,3] b_laws_markText_0))
 (.seq (.ops [⟨some 18,none,.mov (.t 3)⟩,⟨some 19,none,.cat (.c (.string ⟨#[109]⟩)) (.t 18)⟩,⟨some 2,none,.mov (.t 19)⟩])
 (.ret)))))
def s_laws_markText : SFn := ⟨1, 20, c_laws_markText, [.t 2]⟩
def b_spec_Digits_0 : SCode :=
 .seq (.seq (.ops [⟨some 10,none,.mov (.t 0)⟩,⟨some 11,none,.cmp .neq (.t 10) (.c (.int .i64 0))⟩])
 (.cond (.t 11) (.skip)
 (.seq (.keep [3,4]) (.exit 0))))
 (.block 1 (.seq (.ops [⟨some 12,none,.mov (.t 0)⟩,⟨some 13,none,.ari .rem (.t 12) (.c (.int .i64 10))⟩,⟨some 5,none,.mov (.t 13)⟩])
 (.seq (.seq (.ops [⟨some 14,none,.mov (.t 5)⟩,⟨some 15,none,.cmp .lss (.t 14) (.c (.int .i64 0))⟩])
 (.cond (.t 15) (.ops [⟨some 16,none,.mov (.t 5)⟩,⟨some 17,none,.ari .sub (.c (.int .i64 0)) (.t 16)⟩,⟨some 5,none,.mov (.t 17)⟩])
 (.skip)))
 (.seq (.ops [⟨some 18,none,.mov (.t 5)⟩,⟨some 19,none,.ari .add (.c (.int .i64 48)) (.t 18)⟩,⟨some 20,none,.conv .u8 (.t 19)⟩,⟨some 21,none,.lit 1 [.t 20]⟩,⟨some 22,none,.sob (.t 21)⟩,⟨some 23,none,.mov (.t 4)⟩,⟨some 24,none,.cat (.t 22) (.t 23)⟩,⟨some 4,none,.mov (.t 24)⟩])
 (.ops [⟨some 25,none,.mov (.t 0)⟩,⟨some 26,none,.ari .quo (.t 25) (.c (.int .i64 10))⟩,⟨some 0,none,.mov (.t 26)⟩])))))
/-- loop.example/g00286/spec.Digits -/
def c_spec_Digits : SCode :=
 .seq (.ops [⟨some 2,none,.mov (.c (.string ⟨#[]⟩))⟩])
 (.seq (.seq (.ops [⟨some 6,none,.mov (.t 0)⟩,⟨some 7,none,.cmp .eql (.t 6) (.c (.int .i64 0))⟩])
 (.cond (.t 7) (.seq (.ops [⟨some 2,none,.mov (.c (.string ⟨#[48]⟩))⟩])
 (.ret))
 (.skip)))
 (.seq (.ops [⟨some 8,none,.mov (.t 0)⟩,⟨some 9,none,.cmp .lss (.t 8) (.c (.int .i64 0))⟩,⟨some 3,none,.mov (.t 9)⟩])
 (.seq (.ops [⟨some 4,none,.mov (.c (.string ⟨#[]⟩))⟩])
 (.seq (.block 0 (.loop [0,3,4] b_spec_Digits_0))
 (.seq (.seq (.ops [⟨some 27,none,.mov (.t 3)⟩])
 (.cond (.t 27) (.seq (.ops [⟨some 28,none,.mov (.t 4)⟩,⟨some 29,none,.cat (.c (.string ⟨#[45]⟩)) (.t 28)⟩,⟨some 2,none,.mov (.t 29)⟩])
 (.ret))
 (.skip)))
 (.seq (.ops [⟨some 30,none,.mov (.t 4)⟩,⟨some 2,none,.mov (.t 30)⟩])
 (.ret)))))))
def s_spec_Digits : SFn := ⟨1, 31, c_spec_Digits, [.t 2]⟩
/-- loop.example/g00286/impl.Digits -/
def c_impl_Digits : SCode :=
 .seq (.ops [⟨some 2,none,.mov (.c (.string ⟨#[]⟩))⟩])
 (.seq (.block 0 (.seq (.ops [⟨some 4,none,.mov (.t 0)⟩,⟨some 5,none,.cmp .lss (.t 4) (.c (.int .i64 0))⟩,⟨some 6,none,.mov (.t 5)⟩,⟨some 7,(some (6,true)),.mov (.t 0)⟩,⟨some 8,(some (6,true)),.cmp .gtr (.t 7) (.c (.int .i64 (-10)))⟩,⟨some 9,none,.pick (.t 6) (.t 8) (.c (.bool false))⟩,⟨some 3,none,.mov (.t 9)⟩])
 (.cond (.t 3) (.seq (.ops [⟨some 10,none,.mov (.t 0)⟩,⟨some 11,none,.neg (.t 10)⟩,⟨some 12,none,.callr impl_Digits [.t 11]⟩,⟨some 13,none,.cat (.c (.string ⟨#[45]⟩)) (.t 12)⟩,⟨some 2,none,.mov (.t 13)⟩])
 (.ret))
 (.seq (.ops [⟨some 15,none,.mov (.t 0)⟩,⟨some 16,none,.cmp .lss (.t 15) (.c (.int .i64 0))⟩,⟨some 14,none,.mov (.t 16)⟩])
 (.cond (.t 14) (.seq (.ops [⟨some 17,none,.mov (.t 0)⟩,⟨some 18,none,.ari .quo (.t 17) (.c (.int .i64 10))⟩,⟨some 19,none,.callr impl_Digits [.t 18]⟩,⟨some 20,none,.mov (.t 0)⟩,⟨some 21,none,.ari .rem (.t 20) (.c (.int .i64 10))⟩,⟨some 22,none,.neg (.t 21)⟩,⟨some 23,none,.callr impl_Digits [.t 22]⟩,⟨some 24,none,.cat (.t 19) (.t 23)⟩,⟨some 2,none,.mov (.t 24)⟩])
 (.ret))
 (.seq (.ops [⟨some 26,none,.mov (.t 0)⟩,⟨some 27,none,.cmp .lss (.t 26) (.c (.int .i64 10))⟩,⟨some 25,none,.mov (.t 27)⟩])
 (.cond (.t 25) (.seq (.ops [⟨some 28,none,.mov (.t 0)⟩,⟨some 29,none,.ari .add (.c (.int .i64 48)) (.t 28)⟩,⟨some 30,none,.conv .i32 (.t 29)⟩,⟨some 31,none,.rune (.t 30)⟩,⟨some 2,none,.mov (.t 31)⟩])
 (.ret))
 (.skip))))))))
 (.seq (.ops [⟨some 32,none,.mov (.t 0)⟩,⟨some 33,none,.ari .quo (.t 32) (.c (.int .i64 10))⟩,⟨some 34,none,.callr impl_Digits [.t 33]⟩,⟨some 35,none,.mov (.t 0)⟩,⟨some 36,none,.ari .rem (.t 35) (.c (.int .i64 10))⟩,⟨some 37,none,.ari .add (.c (.int .i64 48)) (.t 36)⟩,⟨some 38,none,.conv .i32 (.t 37)⟩,⟨some 39,none,.rune (.t 38)⟩,⟨some 40,none,.cat (.t 34) (.t 39)⟩,⟨some 2,none,.mov (.t 40)⟩])
 (.ret)))
def s_impl_Digits : SFn := ⟨1, 41, c_impl_Digits, [.t 2]⟩
/-- loop.example/g00286/spec.l1In -/
def c_spec_l1In : SCode :=
 .seq (.ops [⟨some 6,none,.mov (.c (.bool false))⟩])
 (.seq (.ops [⟨some 7,none,.mov (.t 0)⟩,⟨some 8,none,.mov (.t 1)⟩,⟨some 9,none,.cmp .geq (.t 7) (.t 8)⟩,⟨some 10,none,.mov (.t 9)⟩,⟨some 11,(some (10,true)),.mov (.t 0)⟩,⟨some 12,(some (10,true)),.mov (.t 2)⟩,⟨some 13,(some (10,true)),.cmp .leq (.t 11) (.t 12)⟩,⟨some 14,none,.pick (.t 10) (.t 13) (.c (.bool false))⟩,⟨some 6,none,.mov (.t 14)⟩])
 (.ret))
def s_spec_l1In : SFn := ⟨3, 15, c_spec_l1In, [.t 6]⟩
/-- loop.example/g00286/impl.within -/
def c_impl_within : SCode :=
 .seq (.ops [⟨some 6,none,.mov (.c (.bool false))⟩])
 (.seq (.ops [⟨some 7,none,.mov (.t 0)⟩,⟨some 8,none,.mov (.t 1)⟩,⟨some 9,none,.cmp .geq (.t 7) (.t 8)⟩,⟨some 10,none,.mov (.t 9)⟩,⟨some 11,(some (10,true)),.mov (.t 0)⟩,⟨some 12,(some (10,true)),.mov (.t 2)⟩,⟨some 13,(some (10,true)),.cmp .leq (.t 11) (.t 12)⟩,⟨some 14,none,.pick (.t 10) (.t 13) (.c (.bool false))⟩,⟨some 6,none,.mov (.t 14)⟩])
 (.ret))
def s_impl_within : SFn := ⟨3, 15, c_impl_within, [.t 6]⟩
def b_spec_Tokens_0 : SCode :=
 .seq (.seq (.ops [⟨some 14,none,.mov (.t 5)⟩,⟨some 15,none,.mov (.t 0)⟩,⟨some 16,none,.slen (.t 15)⟩,⟨some 17,none,.cmp .lss (.t 14) (.t 16)⟩])
 (.cond (.t 17) (.skip)
 (.seq (.keep [0,4]) (.exit 0))))
 (.block 1 (.seq (.seq (.ops [⟨some 18,none,.mov (.t 0)⟩,⟨some 19,none,.mov (.t 5)⟩,⟨some 20,none,.ixs (.t 18) (.t 19)⟩,⟨some 21,none,.cmp .eql (.t 20) (.c (.int .u8 32))⟩,⟨some 22,none,.mov (.t 21)⟩,⟨some 23,(some (22,false)),.mov (.t 0)⟩,⟨some 24,(some (22,false)),.mov (.t 5)⟩,⟨some 25,(some (22,false)),.ixs (.t 23) (.t 24)⟩,⟨some 26,(some (22,false)),.cmp .eql (.t 25) (.c (.int .u8 10))⟩,⟨some 27,none,.pick (.t 22) (.c (.bool true)) (.t 26)⟩])
 (.cond (.t 27) (.seq (.ops [⟨some 28,none,.mov (.t 5)⟩,⟨some 29,none,.ari .add (.t 28) (.c (.int .i64 1))⟩,⟨some 5,none,.mov (.t 29)⟩])
 (.exit 1))
 (.skip)))
 (.seq (.ops [⟨some 31,none,.mov (.t 0)⟩,⟨some 32,none,.mov (.t 5)⟩,⟨some 33,none,.callr spec_l5One [.t 31,.t 32]⟩,⟨some 30,none,.mov (.t 33)⟩,⟨some 34,none,.ext (.t 30) 0⟩,⟨some 35,none,.ext (.t 30) 1⟩,⟨some 36,none,.ext (.t 30) 2⟩,⟨some 6,none,.alloc [.v (.int .i64 0),.v (.string ⟨#[]⟩),.v (.int .i64 0),.v (.int .i64 0)]⟩,⟨none,none,.store 4 (.t 6) (.t 34)⟩,⟨some 7,none,.mov (.t 35)⟩,⟨some 8,none,.mov (.t 36)⟩])
 (.seq (.seq (.ops [⟨some 37,none,.mov (.t 8)⟩,⟨some 38,none,.not (.t 37)⟩])
 (.cond (.t 38) (.seq (.ops [⟨some 39,none,.lit 4 []⟩,⟨some 40,none,.mov (.t 5)⟩,⟨some 2,none,.mov (.t 39)⟩,⟨some 3,none,.mov (.t 40)⟩])
 (.seq (.keep [2,3]) .ret))
 (.skip)))
 (.seq (.ops [⟨some 41,none,.mov (.t 4)⟩,⟨some 42,none,.load (some 4) (.t 6)⟩,⟨some 43,none,.lit 4 [.t 42]⟩,⟨some 44,none,.app 4 40 (.t 41) (.t 43)⟩,⟨some 4,none,.mov (.t 44)⟩])
 (.ops [⟨some 45,none,.mov (.t 7)⟩,⟨some 5,none,.mov (.t 45)⟩]))))))
/-- loop.example/g00286/spec.Tokens -/
def c_spec_Tokens : SCode :=
 .seq (.ops [⟨some 2,none,.mov (.n 4)⟩,⟨some 3,none,.mov (.c (.int .i64 0))⟩])
 (.seq (.ops [⟨some 9,none,.lit 4 []⟩,⟨some 4,none,.mov (.t 9)⟩])
 (.seq (.seq (.ops [⟨some 10,none,.mov (.t 0)⟩,⟨some 11,none,.slen (.t 10)⟩,⟨some 12,none,.cmp .gtr (.t 11) (.c (.int .i64 6000))⟩])
 (.cond (.t 12) (.seq (.ops [⟨some 13,none,.mov (.t 4)⟩,⟨some 2,none,.mov (.t 13)⟩,⟨some 3,none,.mov (.c (.int .i64 0))⟩])
 (.ret))
 (.skip)))
 (.seq (.ops [⟨some 5,none,.mov (.c (.int .i64 0))⟩])
 (.seq (.block 0 (.loop [0,4,5] b_spec_Tokens_0))
 (.seq (.ops [⟨some 46,none,.mov (.t 4)⟩,⟨some 47,none,.mov (.t 0)⟩,⟨some 48,none,.slen (.t 47)⟩,⟨some 49,none,.build [.v (.int .i64 0),.v (.string ⟨#[]⟩),.v (.int .i64 0),.v (.int .i64 0)] [(0,1,.c (.int .i64 0)),(3,1,.t 48)]⟩,⟨some 50,none,.lit 4 [.t 49]⟩,⟨some 51,none,.app 4 40 (.t 46) (.t 50)⟩,⟨some 2,none,.mov (.t 51)⟩,⟨some 3,none,.mov (.c (.int .i64 (-1)))⟩])
 (.ret))))))
def s_spec_Tokens : SFn := ⟨1, 52, c_spec_Tokens, [.t 2, .t 3]⟩
/-- loop.example/g00286/spec.l6Now -/
def c_spec_l6Now : SCode :=
 .seq (.ops [⟨some 2,none,.alloc [.v (.int .i64 0),.v (.string ⟨#[]⟩),.v (.int .i64 0),.v (.int .i64 0)]⟩])
 (.seq (.ops [⟨some 3,none,.mov (.t 0)⟩,⟨some 4,none,.nck (.t 3)⟩,⟨some 5,none,.faddr 0 (.t 4)⟩,⟨some 6,none,.load none (.t 5)⟩,⟨some 7,none,.mov (.t 0)⟩,⟨some 8,none,.nck (.t 7)⟩,⟨some 9,none,.faddr 1 (.t 8)⟩,⟨some 10,none,.load none (.t 9)⟩,⟨some 11,none,.ixa 4 (.t 6) (.t 10)⟩,⟨some 12,none,.load (some 4) (.t 11)⟩,⟨none,none,.store 4 (.t 2) (.t 12)⟩])
 (.ret))
def s_spec_l6Now : SFn := ⟨1, 13, c_spec_l6Now, [.c 2 (some 4)]⟩
def b_spec_l6Func_0 : SCode :=
 .seq (.seq (.ops [⟨some 12,none,.mov (.t 0)⟩,⟨some 13,none,.nck (.t 12)⟩,⟨some 14,none,.faddr 2 (.t 13)⟩,⟨some 15,none,.load none (.t 14)⟩,⟨some 16,none,.cmp .lss (.t 15) (.c (.int .i64 0))⟩,⟨some 17,none,.mov (.t 16)⟩,⟨some 18,(some (17,true)),.mov (.t 0)⟩,⟨some 19,(some (17,true)),.callb spec_l6Sign [.t 18,.c (.string ⟨#[41]⟩)] [true,false]⟩,⟨some 20,(some (17,true)),.not (.t 19)⟩,⟨some 21,none,.pick (.t 17) (.t 20) (.c (.bool false))⟩])
 (.cond (.t 21) (.skip)
 (.seq (.keep [0,2,3]) (.exit 0))))
 (.block 1 (.seq (.seq (.ops [⟨some 22,none,.faddr 1 (.t 3)⟩,⟨some 23,none,.load none (.t 22)⟩,⟨some 24,none,.len (.t 23)⟩,⟨some 25,none,.cmp .gtr (.t 24) (.c (.int .i64 0))⟩])
 (.cond (.t 25) (.ops [⟨some 26,none,.mov (.t 0)⟩,⟨some 27,none,.callb spec_l6Take [.t 26,.c (.string ⟨#[44]⟩)] [true,false]⟩])
 (.skip)))
 (.seq (.ops [⟨some 28,none,.mov (.t 0)⟩,⟨some 29,none,.callb spec_l6Name [.t 28] [true]⟩,⟨some 30,none,.build [.v (.string ⟨#[]⟩),.v (.bool false)] [(0,1,.t 29)]⟩,⟨some 4,none,.alloc [.v (.string ⟨#[]⟩),.v (.bool false)]⟩,⟨none,none,.store 2 (.t 4) (.t 30)⟩])
 (.seq (.seq (.ops [⟨some 31,none,.mov (.t 0)⟩,⟨some 32,none,.callb spec_l6Is [.t 31,.c (.string ⟨#[99,104,97,110]⟩)] [true,false]⟩])
 (.cond (.t 32) (.seq (.ops [⟨some 33,none,.mov (.t 0)⟩,⟨some 34,none,.callb spec_l6Next [.t 33] [true]⟩])
 (.ops [⟨some 35,none,.faddr 1 (.t 4)⟩,⟨none,none,.store 1 (.t 35) (.c (.bool true))⟩]))
 (.skip)))
 (.ops [⟨some 36,none,.faddr 1 (.t 3)⟩,⟨some 37,none,.load none (.t 36)⟩,⟨some 38,none,.load (some 2) (.t 4)⟩,⟨some 39,none,.lit 2 [.t 38]⟩,⟨some 40,none,.app 2 24 (.t 37) (.t 39)⟩,⟨some 41,none,.faddr 1 (.t 3)⟩,⟨none,none,.store 1 (.t 41) (.t 40)⟩])))))
/-- loop.example/g00286/spec.l6Func -/
def c_spec_l6Func : SCode :=
 .seq (.ops [⟨some 2,none,.alloc [.v (.string ⟨#[]⟩),.s 2 [],.v (.int .i64 0),.v (.string ⟨#[]⟩),.v (.int .i64 0),.s 4 []]⟩])
 (.seq (.ops [⟨some 5,none,.mov (.t 0)⟩,⟨some 6,none,.callb spec_l6Word [.t 5,.c (.string ⟨#[102,117,110,99]⟩)] [true,false]⟩])
 (.seq (.ops [⟨some 7,none,.mov (.t 0)⟩,⟨some 8,none,.callb spec_l6Name [.t 7] [true]⟩,⟨some 9,none,.build [.v (.string ⟨#[]⟩),.s 2 [],.v (.int .i64 0),.v (.string ⟨#[]⟩),.v (.int .i64 0),.s 4 []] [(0,1,.t 8)]⟩,⟨some 3,none,.alloc [.v (.string ⟨#[]⟩),.s 2 [],.v (.int .i64 0),.v (.string ⟨#[]⟩),.v (.int .i64 0),.s 4 []]⟩,⟨none,none,.store 6 (.t 3) (.t 9)⟩])
 (.seq (.ops [⟨some 10,none,.mov (.t 0)⟩,⟨some 11,none,.callb spec_l6Take [.t 10,.c (.string ⟨#[40]⟩)] [true,false]⟩])
 (.seq (.block 0 (.loop [0,2,3] b_spec_l6Func_0))
 (.seq (.ops [⟨some 42,none,.mov (.t 0)⟩,⟨some 43,none,.callb spec_l6Take [.t 42,.c (.string ⟨#[41]⟩)] [true,false]⟩])
 (.seq (.ops [⟨some 44,none,.mov (.t 0)⟩,⟨some 45,none,.callb spec_l6Block [.t 44] [true]⟩,⟨some 46,none,.faddr 2 (.t 3)⟩,⟨none,none,.store 4 (.t 46) (.t 45)⟩])
 (.seq (.ops [⟨some 47,none,.load (some 6) (.t 3)⟩,⟨none,none,.store 6 (.t 2) (.t 47)⟩])
 (.ret))))))))
def s_spec_l6Func : SFn := ⟨1, 48, c_spec_l6Func, [.c 2 (some 6)]⟩
/-- loop.example/g00286/spec.l1Max -/
def c_spec_l1Max : SCode :=
 .seq (.ops [⟨some 4,none,.mov (.c (.int .i64 0))⟩])
 (.seq (.seq (.ops [⟨some 5,none,.mov (.t 0)⟩,⟨some 6,none,.mov (.t 1)⟩,⟨some 7,none,.cmp .gtr (.t 5) (.t 6)⟩])
 (.cond (.t 7) (.seq (.ops [⟨some 8,none,.mov (.t 0)⟩,⟨some 4,none,.mov (.t 8)⟩])
 (.ret))
 (.skip)))
 (.seq (.ops [⟨some 9,none,.mov (.t 1)⟩,⟨some 4,none,.mov (.t 9)⟩])
 (.ret)))
def s_spec_l1Max : SFn := ⟨2, 10, c_spec_l1Max, [.t 4]⟩
def b_spec_Deep_0 : SCode :=
 .seq (.seq (.ops [⟨some 5,none,.mov (.t 4)⟩,⟨some 6,none,.faddr 3 (.t 1)⟩,⟨some 7,none,.load none (.t 6)⟩,⟨some 8,none,.len (.t 7)⟩,⟨some 9,none,.cmp .lss (.t 5) (.t 8)⟩])
 (.cond (.t 9) (.skip)
 (.seq (.keep [3]) (.exit 0))))
 (.seq (.block 1 (.ops [⟨some 12,none,.mov (.t 3)⟩,⟨some 13,none,.faddr 3 (.t 1)⟩,⟨some 14,none,.load none (.t 13)⟩,⟨some 15,none,.mov (.t 4)⟩,⟨some 16,none,.ixa 4 (.t 14) (.t 15)⟩,⟨some 17,none,.load (some 4) (.t 16)⟩,⟨some 18,none,.callr spec_Deep [.t 17]⟩,⟨some 19,none,.callr spec_l1Max [.t 12,.t 18]⟩,⟨some 3,none,.mov (.t 19)⟩]))
 (.ops [⟨some 10,none,.mov (.t 4)⟩,⟨some 11,none,.ari .add (.t 10) (.c (.int .i64 1))⟩,⟨some 4,none,.mov (.t 11)⟩]))
/-- loop.example/g00286/spec.Deep -/
def c_spec_Deep : SCode :=
 .seq (.ops [⟨some 1,none,.vbox 4 (.t 0)⟩,⟨some 2,none,.mov (.c (.int .i64 0))⟩])
 (.seq (.ops [⟨some 3,none,.mov (.c (.int .i64 0))⟩])
 (.seq (.seq (.ops [⟨some 4,none,.mov (.c (.int .i64 0))⟩])
 (.block 0 (.loop [1,3,4] b_spec_Deep_0)))
 (.seq (.ops [⟨some 20,none,.mov (.t 3)⟩,⟨some 21,none,.ari .add (.t 20) (.c (.int .i64 1))⟩,⟨some 2,none,.mov (.t 21)⟩])
 (.ret))))
def s_spec_Deep : SFn := ⟨1, 22, c_spec_Deep, [.t 2]⟩
def b_impl_Tokens_0 : SCode :=
 .seq (.seq (.ops [⟨some 11,none,.mov (.t 5)⟩,⟨some 12,none,.mov (.t 0)⟩,⟨some 13,none,.slen (.t 12)⟩,⟨some 14,none,.cmp .lss (.t 11) (.t 13)⟩])
 (.cond (.t 14) (.skip)
 (.seq (.keep [0,4]) (.exit 0))))
 (.block 1 (.seq (.seq (.ops [⟨some 15,none,.mov (.t 0)⟩,⟨some 16,none,.mov (.t 5)⟩,⟨some 17,none,.ixs (.t 15) (.t 16)⟩,⟨some 18,none,.cmp .eql (.t 17) (.c (.int .u8 32))⟩,⟨some 19,none,.mov (.t 18)⟩,⟨some 20,(some (19,false)),.mov (.t 0)⟩,⟨some 21,(some (19,false)),.mov (.t 5)⟩,⟨some 22,(some (19,false)),.ixs (.t 20) (.t 21)⟩,⟨some 23,(some (19,false)),.cmp .eql (.t 22) (.c (.int .u8 10))⟩,⟨some 24,none,.pick (.t 19) (.c (.bool true)) (.t 23)⟩])
 (.cond (.t 24) (.seq (.ops [⟨some 25,none,.mov (.t 5)⟩,⟨some 26,none,.ari .add (.t 25) (.c (.int .i64 1))⟩,⟨some 5,none,.mov (.t 26)⟩])
 (.exit 1))
 (.skip)))
 (.seq (.ops [⟨some 27,none,.mov (.t 0)⟩,⟨some 28,none,.mov (.t 5)⟩,⟨some 29,none,.callr impl_token [.t 27,.t 28]⟩,⟨some 6,none,.alloc [.v (.int .i64 0),.v (.string ⟨#[]⟩),.v (.int .i64 0),.v (.int .i64 0)]⟩,⟨none,none,.store 4 (.t 6) (.t 29)⟩])
 (.seq (.seq (.ops [⟨some 30,none,.faddr 0 (.t 6)⟩,⟨some 31,none,.load none (.t 30)⟩,⟨some 32,none,.cmp .eql (.t 31) (.c (.int .i64 0))⟩])
 (.cond (.t 32) (.seq (.ops [⟨some 33,none,.mov (.t 5)⟩,⟨some 2,none,.mov (.n 4)⟩,⟨some 3,none,.mov (.t 33)⟩])
 (.seq (.keep [2,3]) .ret))
 (.skip)))
 (.seq (.ops [⟨some 34,none,.mov (.t 5)⟩,⟨some 35,none,.faddr 1 (.t 6)⟩,⟨some 36,none,.load none (.t 35)⟩,⟨some 37,none,.slen (.t 36)⟩,⟨some 38,none,.ari .add (.t 34) (.t 37)⟩,⟨some 5,none,.mov (.t 38)⟩])
 (.seq (.seq (.ops [⟨some 39,none,.faddr 0 (.t 6)⟩,⟨some 40,none,.load none (.t 39)⟩,⟨some 41,none,.cmp .eql (.t 40) (.c (.int .i64 2))⟩])
 (.cond (.t 41) (.ops [⟨some 42,none,.faddr 1 (.t 6)⟩,⟨none,none,.store 1 (.t 42) (.c (.string ⟨#[]⟩))⟩])
 (.skip)))
 (.ops [⟨some 43,none,.mov (.t 4)⟩,⟨some 44,none,.load (some 4) (.t 6)⟩,⟨some 45,none,.lit 4 [.t 44]⟩,⟨some 46,none,.app 4 40 (.t 43) (.t 45)⟩,⟨some 4,none,.mov (.t 46)⟩])))))))
/-- loop.example/g00286/impl.Tokens -/
def c_impl_Tokens : SCode :=
 .seq (.ops [⟨some 2,none,.mov (.n 4)⟩,⟨some 3,none,.mov (.c (.int .i64 0))⟩])
 (.seq (.seq (.ops [⟨some 7,none,.mov (.t 0)⟩,⟨some 8,none,.slen (.t 7)⟩,⟨some 9,none,.cmp .gtr (.t 8) (.c (.int .i64 6000))⟩])
 (.cond (.t 9) (.seq (.ops [⟨some 2,none,.mov (.n 4)⟩,⟨some 3,none,.mov (.c (.int .i64 0))⟩])
 (.ret))
 (.skip)))
 (.seq (.ops [⟨some 10,none,.lit 4 []⟩,⟨some 4,none,.mov (.t 10)⟩])
 (.seq (.seq (.ops [⟨some 5,none,.mov (.c (.int .i64 0))⟩])
 (.block 0 (.loop [0,4,5] b_impl_Tokens_0)))
 (.seq (.ops [⟨some 47,none,.mov (.t 4)⟩,⟨some 48,none,.mov (.t 0)⟩,⟨some 49,none,.slen (.t 48)⟩,⟨some 50,none,.build [.v (.int .i64 0),.v (.string ⟨#[]⟩),.v (.int .i64 0),.v (.int .i64 0)] [(3,1,.t 49)]⟩,⟨some 51,none,.lit 4 [.t 50]⟩,⟨some 52,none,.app 4 40 (.t 47) (.t 51)⟩,⟨some 2,none,.mov (.t 52)⟩,⟨some 3,none,.mov (.c (.int .i64 (-1)))⟩])
 (.ret)))))
def s_impl_Tokens : SFn := ⟨1, 53, c_impl_Tokens, [.t 2, .t 3]⟩
/-- (*loop.example/g00286/impl.parser).take -/
def c_impl_parser_take : SCode :=
 .seq (.ops [⟨some 4,none,.mov (.c (.bool false))⟩])
 (.seq (.ops [⟨some 7,none,.mov (.t 0)⟩,⟨some 8,none,.callb impl_parser_here [.t 7] [true]⟩,⟨some 5,none,.alloc [.v (.int .i64 0),.v (.string ⟨#[]⟩),.v (.int .i64 0),.v (.int .i64 0)]⟩,⟨none,none,.store 4 (.t 5) (.t 8)⟩])
 (.seq (.ops [⟨some 9,none,.mov (.t 0)⟩,⟨some 10,none,.nck (.t 9)⟩,⟨some 11,none,.faddr 2 (.t 10)⟩,⟨some 12,none,.load none (.t 11)⟩,⟨some 13,none,.cmp .lss (.t 12) (.c (.int .i64 0))⟩,⟨some 14,none,.mov (.t 13)⟩,⟨some 15,(some (14,true)),.faddr 1 (.t 5)⟩,⟨some 16,(some (14,true)),.load none (.t 15)⟩,⟨some 17,(some (14,true)),.mov (.t 1)⟩,⟨some 18,(some (14,true)),.cmp .eql (.t 16) (.t 17)⟩,⟨some 19,none,.pick (.t 14) (.t 18) (.c (.bool false))⟩,⟨some 20,none,.mov (.t 19)⟩,⟨some 21,(some (20,true)),.faddr 0 (.t 5)⟩,⟨some 22,(some (20,true)),.load none (.t 21)⟩,⟨some 23,(some (20,true)),.cmp .eql (.t 22) (.c (.int .i64 3))⟩,⟨some 24,(some (20,true)),.mov (.t 23)⟩,⟨some 25,(some (24,false)),.faddr 0 (.t 5)⟩,⟨some 26,(some (24,false)),.load none (.t 25)⟩,⟨some 27,(some (24,false)),.cmp .eql (.t 26) (.c (.int .i64 1))⟩,⟨some 28,(some (20,true)),.pick (.t 24) (.c (.bool true)) (.t 27)⟩,⟨some 29,none,.pick (.t 20) (.t 28) (.c (.bool false))⟩,⟨some 6,none,.mov (.t 29)⟩])
 (.seq (.seq (.ops [⟨some 30,none,.mov (.t 6)⟩])
 (.cond (.t 30) (.ops [⟨some 31,none,.mov (.t 0)⟩,⟨some 32,none,.callb impl_parser_next [.t 31] [true]⟩])
 (.skip)))
 (.seq (.ops [⟨some 33,none,.mov (.t 6)⟩,⟨some 4,none,.mov (.t 33)⟩])
 (.ret)))))
def s_impl_parser_take : SFn := ⟨2, 34, c_impl_parser_take, [.t 4]⟩
def b_impl_parser_function_0 : SCode :=
 .seq (.seq (.ops [⟨some 14,none,.mov (.t 0)⟩,⟨some 15,none,.nck (.t 14)⟩,⟨some 16,none,.faddr 2 (.t 15)⟩,⟨some 17,none,.load none (.t 16)⟩,⟨some 18,none,.cmp .lss (.t 17) (.c (.int .i64 0))⟩])
 (.cond (.t 18) (.skip)
 (.seq (.keep [0,2,3]) (.exit 0))))
 (.block 1 (.seq (.ops [⟨some 19,none,.build [.v (.string ⟨#[]⟩),.v (.bool false)] []⟩,⟨some 4,none,.alloc [.v (.string ⟨#[]⟩),.v (.bool false)]⟩,⟨none,none,.store 2 (.t 4) (.t 19)⟩])
 (.seq (.ops [⟨some 20,none,.mov (.t 0)⟩,⟨some 21,none,.callb impl_parser_name [.t 20] [true]⟩,⟨some 22,none,.faddr 0 (.t 4)⟩,⟨none,none,.store 1 (.t 22) (.t 21)⟩])
 (.seq (.ops [⟨some 23,none,.mov (.t 0)⟩,⟨some 24,none,.callb impl_parser_take [.t 23,.c (.string ⟨#[99,104,97,110]⟩)] [true,false]⟩,⟨some 25,none,.faddr 1 (.t 4)⟩,⟨none,none,.store 1 (.t 25) (.t 24)⟩])
 (.seq (.ops [⟨some 26,none,.faddr 1 (.t 3)⟩,⟨some 27,none,.load none (.t 26)⟩,⟨some 28,none,.load (some 2) (.t 4)⟩,⟨some 29,none,.lit 2 [.t 28]⟩,⟨some 30,none,.app 2 24 (.t 27) (.t 29)⟩,⟨some 31,none,.faddr 1 (.t 3)⟩,⟨none,none,.store 1 (.t 31) (.t 30)⟩])
 (.seq (.ops [⟨some 32,none,.mov (.t 0)⟩,⟨some 33,none,.callb impl_parser_take [.t 32,.c (.string ⟨#[44]⟩)] [true,false]⟩,⟨some 34,none,.not (.t 33)⟩])
 (.cond (.t 34) (.seq (.keep [0,2,3]) (.exit 0))
 (.skip))))))))
/-- (*loop.example/g00286/impl.parser).function -/
def c_impl_parser_function : SCode :=
 .seq (.ops [⟨some 2,none,.alloc [.v (.string ⟨#[]⟩),.s 2 [],.v (.int .i64 0),.v (.string ⟨#[]⟩),.v (.int .i64 0),.s 4 []]⟩])
 (.seq (.ops [⟨some 5,none,.build [.v (.string ⟨#[]⟩),.s 2 [],.v (.int .i64 0),.v (.string ⟨#[]⟩),.v (.int .i64 0),.s 4 []] []⟩,⟨some 3,none,.alloc [.v (.string ⟨#[]⟩),.s 2 [],.v (.int .i64 0),.v (.string ⟨#[]⟩),.v (.int .i64 0),.s 4 []]⟩,⟨none,none,.store 6 (.t 3) (.t 5)⟩])
 (.seq (.ops [⟨some 6,none,.mov (.t 0)⟩,⟨some 7,none,.callb impl_parser_name [.t 6] [true]⟩,⟨some 8,none,.faddr 0 (.t 3)⟩,⟨none,none,.store 1 (.t 8) (.t 7)⟩])
 (.seq (.ops [⟨some 9,none,.mov (.t 0)⟩,⟨some 10,none,.callb impl_parser_need [.t 9,.c (.string ⟨#[40]⟩)] [true,false]⟩])
 (.seq (.seq (.ops [⟨some 11,none,.mov (.t 0)⟩,⟨some 12,none,.callb impl_parser_take [.t 11,.c (.string ⟨#[41]⟩)] [true,false]⟩,⟨some 13,none,.not (.t 12)⟩])
 (.cond (.t 13) (.seq (.block 0 (.loop [0,2,3] b_impl_parser_function_0))
 (.ops [⟨some 35,none,.mov (.t 0)⟩,⟨some 36,none,.callb impl_parser_need [.t 35,.c (.string ⟨#[41]⟩)] [true,false]⟩]))
 (.skip)))
 (.seq (.ops [⟨some 37,none,.mov (.t 0)⟩,⟨some 38,none,.callb impl_parser_block [.t 37] [true]⟩,⟨some 39,none,.faddr 2 (.t 3)⟩,⟨none,none,.store 4 (.t 39) (.t 38)⟩])
 (.seq (.ops [⟨some 40,none,.load (some 6) (.t 3)⟩,⟨none,none,.store 6 (.t 2) (.t 40)⟩])
 (.ret)))))))
def s_impl_parser_function : SFn := ⟨1, 41, c_impl_parser_function, [.c 2 (some 6)]⟩
/-- (*loop.example/g00286/impl.parser).here -/
def c_impl_parser_here : SCode :=
 .seq (.ops [⟨some 2,none,.alloc [.v (.int .i64 0),.v (.string ⟨#[]⟩),.v (.int .i64 0),.v (.int .i64 0)]⟩])
 (.seq (.ops [⟨some 3,none,.mov (.t 0)⟩,⟨some 4,none,.nck (.t 3)⟩,⟨some 5,none,.faddr 0 (.t 4)⟩,⟨some 6,none,.load none (.t 5)⟩,⟨some 7,none,.mov (.t 0)⟩,⟨some 8,none,.nck (.t 7)⟩,⟨some 9,none,.faddr 1 (.t 8)⟩,⟨some 10,none,.load none (.t 9)⟩,⟨some 11,none,.ixa 4 (.t 6) (.t 10)⟩,⟨some 12,none,.load (some 4) (.t 11)⟩,⟨none,none,.store 4 (.t 2) (.t 12)⟩])
 (.ret))
def s_impl_parser_here : SFn := ⟨1, 13, c_impl_parser_here, [.c 2 (some 4)]⟩
/-- (*loop.example/g00286/impl.parser).failAt -/
def c_impl_parser_failAt : SCode :=
 .seq (.ops [⟨some 4,none,.mov (.t 0)⟩,⟨some 5,none,.nck (.t 4)⟩,⟨some 6,none,.faddr 2 (.t 5)⟩,⟨some 7,none,.load none (.t 6)⟩,⟨some 8,none,.cmp .lss (.t 7) (.c (.int .i64 0))⟩])
 (.cond (.t 8) (.ops [⟨some 9,none,.mov (.t 0)⟩,⟨some 10,none,.mov (.t 1)⟩,⟨some 11,none,.nck (.t 9)⟩,⟨some 12,none,.faddr 2 (.t 11)⟩,⟨none,none,.store 1 (.t 12) (.t 10)⟩])
 (.skip))
def s_impl_parser_failAt : SFn := ⟨2, 13, c_impl_parser_failAt, []⟩
def b_impl_Deep_0 : SCode :=
 .seq (.ops [⟨some 10,none,.cmp .lss (.t 9) (.t 8)⟩])
 (.seq (.cond (.t 10) (.skip)
 (.seq (.keep [3]) (.exit 0)))
 (.seq (.block 1 (.seq (.ops [⟨some 11,none,.ixa 4 (.t 7) (.t 9)⟩,⟨some 12,none,.load (some 4) (.t 11)⟩,⟨some 5,none,.alloc [.v (.int .i64 0),.v (.string ⟨#[]⟩),.v (.int .i64 0),.s 4 []]⟩,⟨none,none,.store 4 (.t 5) (.t 12)⟩])
 (.ops [⟨some 13,none,.mov (.t 3)⟩,⟨some 14,none,.load (some 4) (.t 5)⟩,⟨some 15,none,.callr impl_Deep [.t 14]⟩,⟨some 16,none,.mm true (.t 13) (.t 15)⟩,⟨some 3,none,.mov (.t 16)⟩])))
 (.ops [⟨some 17,none,.ari .add (.t 9) (.c (.int .i64 1))⟩,⟨some 9,none,.mov (.t 17)⟩])))
/-- loop.example/g00286/impl.Deep -/
def c_impl_Deep : SCode :=
 .seq (.ops [⟨some 1,none,.vbox 4 (.t 0)⟩,⟨some 2,none,.mov (.c (.int .i64 0))⟩])
 (.seq (.ops [⟨some 3,none,.mov (.c (.int .i64 0))⟩])
 (.seq (.seq (.ops [⟨some 6,none,.faddr 3 (.t 1)⟩,⟨some 7,none,.load none (.t 6)⟩,⟨some 8,none,.len (.t 7)⟩,⟨some 9,none,.mov (.c (.int .i64 0))⟩])
 (.block 0 (.loop [3,7,8,9] b_impl_Deep_0)))
 (.seq (.ops [⟨some 18,none,.mov (.t 3)⟩,⟨some 19,none,.ari .add (.t 18) (.c (.int .i64 1))⟩,⟨some 2,none,.mov (.t 19)⟩])
 (.ret))))
def s_impl_Deep : SFn := ⟨1, 20, c_impl_Deep, [.t 2]⟩
/-- loop.example/g00286/laws.eqFunc -/
def c_laws_eqFunc : SCode :=
 .seq (.ops [⟨some 2,none,.vbox 6 (.t 0)⟩,⟨some 3,none,.vbox 6 (.t 1)⟩,⟨some 4,none,.mov (.c (.bool false))⟩])
 (.seq (.seq (.ops [⟨some 5,none,.faddr 0 (.t 2)⟩,⟨some 6,none,.load none (.t 5)⟩,⟨some 7,none,.faddr 0 (.t 3)⟩,⟨some 8,none,.load none (.t 7)⟩,⟨some 9,none,.cmp .neq (.t 6) (.t 8)⟩])
 (.cond (.t 9) (.seq (.ops [⟨some 4,none,.mov (.c (.bool false))⟩])
 (.ret))
 (.skip)))
 (.seq (.seq (.ops [⟨some 10,none,.faddr 1 (.t 2)⟩,⟨some 11,none,.load none (.t 10)⟩,⟨some 12,none,.faddr 1 (.t 3)⟩,⟨some 13,none,.load none (.t 12)⟩,⟨some 14,none,.callr laws_eqParamS [.t 11,.t 13]⟩,⟨some 15,none,.not (.t 14)⟩])
 (.cond (.t 15) (.seq (.ops [⟨some 4,none,.mov (.c (.bool false))⟩])
 (.ret))
 (.skip)))
 (.seq (.seq (.ops [⟨some 16,none,.faddr 2 (.t 2)⟩,⟨some 17,none,.load (some 4) (.t 16)⟩,⟨some 18,none,.faddr 2 (.t 3)⟩,⟨some 19,none,.load (some 4) (.t 18)⟩,⟨some 20,none,.callr laws_eqNode [.t 17,.t 19]⟩,⟨some 21,none,.not (.t 20)⟩])
 (.cond (.t 21) (.seq (.ops [⟨some 4,none,.mov (.c (.bool false))⟩])
 (.ret))
 (.skip)))
 (.seq (.ops [⟨some 4,none,.mov (.c (.bool true))⟩])
 (.ret)))))
def s_laws_eqFunc : SFn := ⟨2, 22, c_laws_eqFunc, [.t 4]⟩
def b_laws_markParamS_0 : SCode :=
 .seq (.seq (.ops [⟨some 6,none,.mov (.t 5)⟩,⟨some 7,none,.mov (.t 0)⟩,⟨some 8,none,.len (.t 7)⟩,⟨some 9,none,.cmp .lss (.t 6) (.t 8)⟩])
 (.cond (.t 9) (.skip)
 (.seq (.keep [1]) (.exit 0))))
 (.seq (.block 1 (.seq (.ops [⟨some 12,none,.mov (.t 0)⟩,⟨some 13,none,.mov (.t 5)⟩,⟨some 14,none,.mov (.t 1)⟩,⟨some 15,none,.callr laws_markText [.t 14]⟩,⟨some 16,none,.ixa 2 (.t 12) (.t 13)⟩,⟨some 17,none,.faddr 0 (.t 16)⟩,⟨none,none,.store 1 (.t 17) (.t 15)⟩])
 (.seq (.ops [⟨some 18,none,.mov (.t 1)⟩,⟨some 19,none,.ari .add (.t 18) (.c (.int .i64 1))⟩,⟨some 1,none,.mov (.t 19)⟩])
 (.seq (.ops [⟨some 20,none,.mov (.t 0)⟩,⟨some 21,none,.mov (.t 5)⟩,⟨some 22,none,.mov (.t 1)⟩,⟨some 23,none,.ari .rem (.t 22) (.c (.int .i64 3))⟩,⟨some 24,none,.cmp .eql (.t 23) (.c (.int .i64 0))⟩,⟨some 25,none,.ixa 2 (.t 20) (.t 21)⟩,⟨some 26,none,.faddr 1 (.t 25)⟩,⟨none,none,.store 1 (.t 26) (.t 24)⟩])
 (.ops [⟨some 27,none,.mov (.t 1)⟩,⟨some 28,none,.ari .add (.t 27) (.c (.int .i64 1))⟩,⟨some 1,none,.mov (.t 28)⟩])))))
 (.ops [⟨some 10,none,.mov (.t 5)⟩,⟨some 11,none,.ari .add (.t 10) (.c (.int .i64 1))⟩,⟨some 5,none,.mov (.t 11)⟩]))
/-- loop.example/g00286/laws.markParamS -/
def c_laws_markParamS : SCode :=
 .seq (.ops [⟨some 4,none,.mov (.c (.int .i64 0))⟩])
 (.seq (.seq (.ops [⟨some 5,none,.mov (.c (.int .i64 0))⟩])
 (.block 0 (.loop [0,1,5] b_laws_markParamS_0)))
 (.seq (.ops [⟨some 29,none,.mov (.t 1)⟩,⟨some 4,none,.mov (.t 29)⟩])
 (.ret)))
def s_laws_markParamS : SFn := ⟨2, 30, c_laws_markParamS, [.t 4]⟩
def b_laws_markNodeS_0 : SCode :=
 .seq (.seq (.ops [⟨some 6,none,.mov (.t 5)⟩,⟨some 7,none,.mov (.t 0)⟩,⟨some 8,none,.len (.t 7)⟩,⟨some 9,none,.cmp .lss (.t 6) (.t 8)⟩])
 (.cond (.t 9) (.skip)
 (.seq (.keep [1]) (.exit 0))))
 (.seq (.block 1 (.seq (.ops [⟨some 12,none,.mov (.t 0)⟩,⟨some 13,none,.mov (.t 5)⟩,⟨some 14,none,.mov (.t 1)⟩,⟨some 15,none,.ixa 4 (.t 12) (.t 13)⟩,⟨some 16,none,.faddr 0 (.t 15)⟩,⟨none,none,.store 1 (.t 16) (.t 14)⟩])
 (.seq (.ops [⟨some 17,none,.mov (.t 1)⟩,⟨some 18,none,.ari .add (.t 17) (.c (.int .i64 1))⟩,⟨some 1,none,.mov (.t 18)⟩])
 (.seq (.ops [⟨some 19,none,.mov (.t 0)⟩,⟨some 20,none,.mov (.t 5)⟩,⟨some 21,none,.mov (.t 1)⟩,⟨some 22,none,.callr laws_markText [.t 21]⟩,⟨some 23,none,.ixa 4 (.t 19) (.t 20)⟩,⟨some 24,none,.faddr 1 (.t 23)⟩,⟨none,none,.store 1 (.t 24) (.t 22)⟩])
 (.seq (.ops [⟨some 25,none,.mov (.t 1)⟩,⟨some 26,none,.ari .add (.t 25) (.c (.int .i64 1))⟩,⟨some 1,none,.mov (.t 26)⟩])
 (.seq (.ops [⟨some 27,none,.mov (.t 0)⟩,⟨some 28,none,.mov (.t 5)⟩,⟨some 29,none,.mov (.t 1)⟩,⟨some 30,none,.ixa 4 (.t 27) (.t 28)⟩,⟨some 31,none,.faddr 2 (.t 30)⟩,⟨none,none,.store 1 (.t 31) (.t 29)⟩])
 (.seq (.ops [⟨some 32,none,.mov (.t 1)⟩,⟨some 33,none,.ari .add (.t 32) (.c (.int .i64 1))⟩,⟨some 1,none,.mov (.t 33)⟩])
 (.ops [⟨some 34,none,.mov (.t 0)⟩,⟨some 35,none,.mov (.t 5)⟩,⟨some 36,none,.ixa 4 (.t 34) (.t 35)⟩,⟨some 37,none,.faddr 3 (.t 36)⟩,⟨some 38,none,.load none (.t 37)⟩,⟨some 39,none,.mov (.t 1)⟩,⟨some 40,none,.callb laws_markNodeS [.t 38,.t 39] [true,false]⟩,⟨some 1,none,.mov (.t 40)⟩]))))))))
 (.ops [⟨some 10,none,.mov (.t 5)⟩,⟨some 11,none,.ari .add (.t 10) (.c (.int .i64 1))⟩,⟨some 5,none,.mov (.t 11)⟩]))
/-- loop.example/g00286/laws.markNodeS -/
def c_laws_markNodeS : SCode :=
 .seq (.ops [⟨some 4,none,.mov (.c (.int .i64 0))⟩])
 (.seq (.seq (.ops [⟨some 5,none,.mov (.c (.int .i64 0))⟩])
 (.block 0 (.loop [0,1,5] b_laws_markNodeS_0)))
 (.seq (.ops [⟨some 41,none,.mov (.t 1)⟩,⟨some 4,none,.mov (.t 41)⟩])
 (.ret)))
def s_laws_markNodeS : SFn := ⟨2, 42, c_laws_markNodeS, [.t 4]⟩
def b_laws_heldParamS_0 : SCode :=
 .seq (.seq (.ops [⟨some 6,none,.mov (.t 5)⟩,⟨some 7,none,.mov (.t 0)⟩,⟨some 8,none,.len (.t 7)⟩,⟨some 9,none,.cmp .lss (.t 6) (.t 8)⟩])
 (.cond (.t 9) (.skip)
 (.seq (.keep [1]) (.exit 0))))
 (.seq (.block 1 (.seq (.seq (.ops [⟨some 12,none,.mov (.t 0)⟩,⟨some 13,none,.mov (.t 5)⟩,⟨some 14,none,.ixa 2 (.t 12) (.t 13)⟩,⟨some 15,none,.faddr 0 (.t 14)⟩,⟨some 16,none,.load none (.t 15)⟩,⟨some 17,none,.mov (.t 1)⟩,⟨some 18,none,.callr laws_markText [.t 17]⟩,⟨some 19,none,.cmp .neq (.t 16) (.t 18)⟩])
 (.cond (.t 19) (.seq (.ops [⟨some 4,none,.mov (.c (.int .i64 (-1)))⟩])
 (.seq (.keep [4]) .ret))
 (.skip)))
 (.seq (.ops [⟨some 20,none,.mov (.t 1)⟩,⟨some 21,none,.ari .add (.t 20) (.c (.int .i64 1))⟩,⟨some 1,none,.mov (.t 21)⟩])
 (.seq (.seq (.ops [⟨some 22,none,.mov (.t 0)⟩,⟨some 23,none,.mov (.t 5)⟩,⟨some 24,none,.ixa 2 (.t 22) (.t 23)⟩,⟨some 25,none,.faddr 1 (.t 24)⟩,⟨some 26,none,.load none (.t 25)⟩,⟨some 27,none,.mov (.t 1)⟩,⟨some 28,none,.ari .rem (.t 27) (.c (.int .i64 3))⟩,⟨some 29,none,.cmp .eql (.t 28) (.c (.int .i64 0))⟩,⟨some 30,none,.cmpb .neq (.t 26) (.t 29)⟩])
 (.cond (.t 30) (.seq (.ops [⟨some 4,none,.mov (.c (.int .i64 (-1)))⟩])
 (.seq (.keep [4]) .ret))
 (.skip)))
 (.ops [⟨some 31,none,.mov (.t 1)⟩,⟨some 32,none,.ari .add (.t 31) (.c (.int .i64 1))⟩,⟨some 1,none,.mov (.t 32)⟩])))))
 (.ops [⟨some 10,none,.mov (.t 5)⟩,⟨some 11,none,.ari .add (.t 10) (.c (.int .i64 1))⟩,⟨some 5,none,.mov (.t 11)⟩]))
/-- loop.example/g00286/laws.heldParamS -/
def c_laws_heldParamS : SCode :=
 .seq (.ops [⟨some 4,none,.mov (.c (.int .i64 0))⟩])
 (.seq (.seq (.ops [⟨some 5,none,.mov (.c (.int .i64 0))⟩])
 (.block 0 (.loop [0,1,5] b_laws_heldParamS_0)))
 (.seq (.ops [⟨some 33,none,.mov (.t 1)⟩,⟨some 4,none,.mov (.t 33)⟩])
 (.ret)))
def s_laws_heldParamS : SFn := ⟨2, 34, c_laws_heldParamS, [.t 4]⟩
def b_laws_heldNodeS_0 : SCode :=
 .seq (.seq (.ops [⟨some 6,none,.mov (.t 5)⟩,⟨some 7,none,.mov (.t 0)⟩,⟨some 8,none,.len (.t 7)⟩,⟨some 9,none,.cmp .lss (.t 6) (.t 8)⟩])
 (.cond (.t 9) (.skip)
 (.seq (.keep [1]) (.exit 0))))
 (.seq (.block 1 (.seq (.seq (.ops [⟨some 12,none,.mov (.t 0)⟩,⟨some 13,none,.mov (.t 5)⟩,⟨some 14,none,.ixa 4 (.t 12) (.t 13)⟩,⟨some 15,none,.faddr 0 (.t 14)⟩,⟨some 16,none,.load none (.t 15)⟩,⟨some 17,none,.mov (.t 1)⟩,⟨some 18,none,.cmp .neq (.t 16) (.t 17)⟩])
 (.cond (.t 18) (.seq (.ops [⟨some 4,none,.mov (.c (.int .i64 (-1)))⟩])
 (.seq (.keep [4]) .ret))
 (.skip)))
 (.seq (.ops [⟨some 19,none,.mov (.t 1)⟩,⟨some 20,none,.ari .add (.t 19) (.c (.int .i64 1))⟩,⟨some 1,none,.mov (.t 20)⟩])
 (.seq (.seq (.ops [⟨some 21,none,.mov (.t 0)⟩,⟨some 22,none,.mov (.t 5)⟩,⟨some 23,none,.ixa 4 (.t 21) (.t 22)⟩,⟨some 24,none,.faddr 1 (.t 23)⟩,⟨some 25,none,.load none (.t 24)⟩,⟨some 26,none,.mov (.t 1)⟩,⟨some 27,none,.callr laws_markText [.t 26]⟩,⟨some 28,none,.cmp .neq (.t 25) (.t 27)⟩])
 (.cond (.t 28) (.seq (.ops [⟨some 4,none,.mov (.c (.int .i64 (-1)))⟩])
 (.seq (.keep [4]) .ret))
 (.skip)))
 (.seq (.ops [⟨some 29,none,.mov (.t 1)⟩,⟨some 30,none,.ari .add (.t 29) (.c (.int .i64 1))⟩,⟨some 1,none,.mov (.t 30)⟩])
 (.seq (.seq (.ops [⟨some 31,none,.mov (.t 0)⟩,⟨some 32,none,.mov (.t 5)⟩,⟨some 33,none,.ixa 4 (.t 31) (.t 32)⟩,⟨some 34,none,.faddr 2 (.t 33)⟩,⟨some 35,none,.load none (.t 34)⟩,⟨some 36,none,.mov (.t 1)⟩,⟨some 37,none,.cmp .neq (.t 35) (.t 36)⟩])
 (.cond (.t 37) (.seq (.ops [⟨some 4,none,.mov (.c (.int .i64 (-1)))⟩])
 (.seq (.keep [4]) .ret))
 (.skip)))
 (.seq (.ops [⟨some 38,none,.mov (.t 1)⟩,⟨some 39,none,.ari .add (.t 38) (.c (.int .i64 1))⟩,⟨some 1,none,.mov (.t 39)⟩])
 (.seq (.ops [⟨some 40,none,.mov (.t 0)⟩,⟨some 41,none,.mov (.t 5)⟩,⟨some 42,none,.ixa 4 (.t 40) (.t 41)⟩,⟨some 43,none,.faddr 3 (.t 42)⟩,⟨some 44,none,.load none (.t 43)⟩,⟨some 45,none,.mov (.t 1)⟩,⟨some 46,none,.callr laws_heldNodeS [.t 44,.t 45]⟩,⟨some 1,none,.mov (.t 46)⟩])
 (.seq (.ops [⟨some 47,none,.mov (.t 1)⟩,⟨some 48,none,.cmp .lss (.t 47) (.c (.int .i64 0))⟩])
 (.cond (.t 48) (.seq (.ops [⟨some 4,none,.mov (.c (.int .i64 (-1)))⟩])
 (.seq (.keep [4]) .ret))
 (.skip)))))))))))
 (.ops [⟨some 10,none,.mov (.t 5)⟩,⟨some 11,none,.ari .add (.t 10) (.c (.int .i64 1))⟩,⟨some 5,none,.mov (.t 11)⟩]))
/-- loop.example/g00286/laws.heldNodeS -/
def c_laws_heldNodeS : SCode :=
 .seq (.ops [⟨some 4,none,.mov (.c (.int .i64 0))⟩])
 (.seq (.seq (.ops [⟨some 5,none,.mov (.c (.int .i64 0))⟩])
 (.block 0 (.loop [0,1,5] b_laws_heldNodeS_0)))
 (.seq (.ops [⟨some 49,none,.mov (.t 1)⟩,⟨some 4,none,.mov (.t 49)⟩])
 (.ret)))
def s_laws_heldNodeS : SFn := ⟨2, 50, c_laws_heldNodeS, [.t 4]⟩
/-- loop.example/g00286/spec.WordOk -/
def c_spec_WordOk : SCode :=
 .seq (.ops [⟨some 2,none,.mov (.c (.bool false))⟩])
 (.seq (.ops [⟨some 3,none,.mov (.t 0)⟩,⟨some 4,none,.callr spec_l1In [.t 3,.c (.int .i64 (-2147483648)),.c (.int .i64 2147483647)]⟩,⟨some 2,none,.mov (.t 4)⟩])
 (.ret))
def s_spec_WordOk : SFn := ⟨1, 5, c_spec_WordOk, [.t 2]⟩
/-- loop.example/g00286/impl.WordOk -/
def c_impl_WordOk : SCode :=
 .seq (.ops [⟨some 2,none,.mov (.c (.bool false))⟩])
 (.seq (.ops [⟨some 3,none,.mov (.t 0)⟩,⟨some 4,none,.callr impl_within [.t 3,.c (.int .i64 (-2147483648)),.c (.int .i64 2147483647)]⟩,⟨some 2,none,.mov (.t 4)⟩])
 (.ret))
def s_impl_WordOk : SFn := ⟨1, 5, c_impl_WordOk, [.t 2]⟩
def b_spec_l5One_0 : SCode :=
 .seq (.seq (.ops [⟨some 17,none,.mov (.t 7)⟩,⟨some 18,none,.mov (.t 0)⟩,⟨some 19,none,.slen (.t 18)⟩,⟨some 20,none,.cmp .lss (.t 17) (.t 19)⟩,⟨some 21,none,.mov (.t 20)⟩,⟨some 22,(some (21,true)),.mov (.t 0)⟩,⟨some 23,(some (21,true)),.mov (.t 7)⟩,⟨some 24,(some (21,true)),.ixs (.t 22) (.t 23)⟩,⟨some 25,(some (21,true)),.callr spec_l5Letter [.t 24]⟩,⟨some 26,none,.pick (.t 21) (.t 25) (.c (.bool false))⟩])
 (.cond (.t 26) (.skip)
 (.seq (.keep [0,1,4,7]) (.exit 1))))
 (.block 2 (.ops [⟨some 27,none,.mov (.t 7)⟩,⟨some 28,none,.ari .add (.t 27) (.c (.int .i64 1))⟩,⟨some 7,none,.mov (.t 28)⟩]))
def b_spec_l5One_1 : SCode :=
 .seq (.seq (.ops [⟨some 45,none,.mov (.t 7)⟩,⟨some 46,none,.mov (.t 0)⟩,⟨some 47,none,.slen (.t 46)⟩,⟨some 48,none,.cmp .lss (.t 45) (.t 47)⟩,⟨some 49,none,.mov (.t 48)⟩,⟨some 50,(some (49,true)),.mov (.t 0)⟩,⟨some 51,(some (49,true)),.mov (.t 7)⟩,⟨some 52,(some (49,true)),.ixs (.t 50) (.t 51)⟩,⟨some 53,(some (49,true)),.callr spec_l5Digit [.t 52]⟩,⟨some 54,none,.pick (.t 49) (.t 53) (.c (.bool false))⟩])
 (.cond (.t 54) (.skip)
 (.seq (.keep [0,1,4,7]) (.exit 3))))
 (.block 4 (.ops [⟨some 55,none,.mov (.t 7)⟩,⟨some 56,none,.ari .add (.t 55) (.c (.int .i64 1))⟩,⟨some 7,none,.mov (.t 56)⟩]))
/-- loop.example/g00286/spec.l5One -/
def c_spec_l5One : SCode :=
 .seq (.ops [⟨some 4,none,.alloc [.v (.int .i64 0),.v (.string ⟨#[]⟩),.v (.int .i64 0),.v (.int .i64 0)]⟩,⟨some 5,none,.mov (.c (.int .i64 0))⟩,⟨some 6,none,.mov (.c (.bool false))⟩])
 (.seq (.ops [⟨some 11,none,.mov (.t 1)⟩,⟨some 7,none,.mov (.t 11)⟩])
 (.seq (.block 0 (.seq (.ops [⟨some 13,none,.mov (.t 0)⟩,⟨some 14,none,.mov (.t 1)⟩,⟨some 15,none,.ixs (.t 13) (.t 14)⟩,⟨some 16,none,.callr spec_l5Letter [.t 15]⟩,⟨some 12,none,.mov (.t 16)⟩])
 (.cond (.t 12) (.seq (.block 1 (.loop [0,1,4,7] b_spec_l5One_0))
 (.seq (.ops [⟨some 29,none,.mov (.t 0)⟩,⟨some 30,none,.mov (.t 1)⟩,⟨some 31,none,.mov (.t 7)⟩,⟨some 32,none,.cutS (.t 29) (some (.t 30)) (some (.t 31))⟩,⟨some 33,none,.mov (.t 1)⟩,⟨some 34,none,.build [.v (.int .i64 0),.v (.string ⟨#[]⟩),.v (.int .i64 0),.v (.int .i64 0)] [(0,1,.c (.int .i64 1)),(1,1,.t 32),(3,1,.t 33)]⟩,⟨some 35,none,.mov (.t 7)⟩,⟨some 36,none,.mov (.t 7)⟩,⟨some 37,none,.mov (.t 1)⟩,⟨some 38,none,.ari .sub (.t 36) (.t 37)⟩,⟨some 39,none,.cmp .leq (.t 38) (.c (.int .i64 10))⟩,⟨none,none,.store 4 (.t 4) (.t 34)⟩,⟨some 5,none,.mov (.t 35)⟩,⟨some 6,none,.mov (.t 39)⟩])
 (.ret)))
 (.seq (.ops [⟨some 41,none,.mov (.t 0)⟩,⟨some 42,none,.mov (.t 1)⟩,⟨some 43,none,.ixs (.t 41) (.t 42)⟩,⟨some 44,none,.callr spec_l5Digit [.t 43]⟩,⟨some 40,none,.mov (.t 44)⟩])
 (.cond (.t 40) (.seq (.block 3 (.loop [0,1,4,7] b_spec_l5One_1))
 (.seq (.ops [⟨some 58,none,.mov (.t 0)⟩,⟨some 59,none,.mov (.t 1)⟩,⟨some 60,none,.mov (.t 7)⟩,⟨some 61,none,.cutS (.t 58) (some (.t 59)) (some (.t 60))⟩,⟨some 62,none,.callr spec_Number [.t 61]⟩,⟨some 57,none,.mov (.t 62)⟩,⟨some 63,none,.ext (.t 57) 0⟩,⟨some 64,none,.ext (.t 57) 1⟩,⟨some 8,none,.mov (.t 63)⟩,⟨some 9,none,.mov (.t 64)⟩])
 (.seq (.ops [⟨some 65,none,.mov (.t 8)⟩,⟨some 66,none,.mov (.t 1)⟩,⟨some 67,none,.build [.v (.int .i64 0),.v (.string ⟨#[]⟩),.v (.int .i64 0),.v (.int .i64 0)] [(0,1,.c (.int .i64 2)),(2,1,.t 65),(3,1,.t 66)]⟩,⟨some 68,none,.mov (.t 7)⟩,⟨some 69,none,.mov (.t 9)⟩,⟨none,none,.store 4 (.t 4) (.t 67)⟩,⟨some 5,none,.mov (.t 68)⟩,⟨some 6,none,.mov (.t 69)⟩])
 (.ret))))
 (.skip))))))
 (.seq (.ops [⟨some 70,none,.mov (.t 0)⟩,⟨some 71,none,.mov (.t 1)⟩,⟨some 72,none,.callr spec_l5Sign [.t 70,.t 71]⟩,⟨some 10,none,.mov (.t 72)⟩])
 (.seq (.ops [⟨some 73,none,.mov (.t 10)⟩,⟨some 74,none,.mov (.t 1)⟩,⟨some 75,none,.build [.v (.int .i64 0),.v (.string ⟨#[]⟩),.v (.int .i64 0),.v (.int .i64 0)] [(0,1,.c (.int .i64 3)),(1,1,.t 73),(3,1,.t 74)]⟩,⟨some 76,none,.mov (.t 1)⟩,⟨some 77,none,.mov (.t 10)⟩,⟨some 78,none,.slen (.t 77)⟩,⟨some 79,none,.ari .add (.t 76) (.t 78)⟩,⟨some 80,none,.mov (.t 10)⟩,⟨some 81,none,.cmp .neq (.t 80) (.c (.string ⟨#[]⟩))⟩,⟨none,none,.store 4 (.t 4) (.t 75)⟩,⟨some 5,none,.mov (.t 79)⟩,⟨some 6,none,.mov (.t 81)⟩])
 (.ret)))))
def s_spec_l5One : SFn := ⟨2, 82, c_spec_l5One, [.c 4 (some 4), .t 5, .t 6]⟩
/-- loop.example/g00286/spec.l6Word -/
def c_spec_l6Word : SCode :=
 .seq (.seq (.ops [⟨some 4,none,.mov (.t 0)⟩,⟨some 5,none,.mov (.t 1)⟩,⟨some 6,none,.callb spec_l6Is [.t 4,.t 5] [true,false]⟩,⟨some 7,none,.not (.t 6)⟩])
 (.cond (.t 7) (.seq (.ops [⟨some 8,none,.mov (.t 0)⟩,⟨some 9,none,.callb spec_l6Bad [.t 8] [true]⟩])
 (.ret))
 (.skip)))
 (.ops [⟨some 10,none,.mov (.t 0)⟩,⟨some 11,none,.callb spec_l6Next [.t 10] [true]⟩])
def s_spec_l6Word : SFn := ⟨2, 12, c_spec_l6Word, []⟩
/-- loop.example/g00286/spec.l6Name -/
def c_spec_l6Name : SCode :=
 .seq (.ops [⟨some 2,none,.mov (.c (.string ⟨#[]⟩))⟩])
 (.seq (.ops [⟨some 4,none,.mov (.t 0)⟩,⟨some 5,none,.callb spec_l6Now [.t 4] [true]⟩,⟨some 3,none,.alloc [.v (.int .i64 0),.v (.string ⟨#[]⟩),.v (.int .i64 0),.v (.int .i64 0)]⟩,⟨none,none,.store 4 (.t 3) (.t 5)⟩])
 (.seq (.seq (.ops [⟨some 6,none,.mov (.t 0)⟩,⟨some 7,none,.nck (.t 6)⟩,⟨some 8,none,.faddr 2 (.t 7)⟩,⟨some 9,none,.load none (.t 8)⟩,⟨some 10,none,.cmp .geq (.t 9) (.c (.int .i64 0))⟩,⟨some 11,none,.mov (.t 10)⟩,⟨some 12,(some (11,false)),.faddr 0 (.t 3)⟩,⟨some 13,(some (11,false)),.load none (.t 12)⟩,⟨some 14,(some (11,false)),.cmp .neq (.t 13) (.c (.int .i64 1))⟩,⟨some 15,none,.pick (.t 11) (.c (.bool true)) (.t 14)⟩,⟨some 16,none,.mov (.t 15)⟩,⟨some 17,(some (16,false)),.faddr 1 (.t 3)⟩,⟨some 18,(some (16,false)),.load none (.t 17)⟩,⟨some 19,(some (16,false)),.callr spec_Keyword [.t 18]⟩,⟨some 20,none,.pick (.t 16) (.c (.bool true)) (.t 19)⟩])
 (.cond (.t 20) (.seq (.ops [⟨some 21,none,.mov (.t 0)⟩,⟨some 22,none,.callb spec_l6Bad [.t 21] [true]⟩])
 (.seq (.ops [⟨some 2,none,.mov (.c (.string ⟨#[]⟩))⟩])
 (.ret)))
 (.skip)))
 (.seq (.ops [⟨some 23,none,.mov (.t 0)⟩,⟨some 24,none,.callb spec_l6Next [.t 23] [true]⟩])
 (.seq (.ops [⟨some 25,none,.faddr 1 (.t 3)⟩,⟨some 26,none,.load none (.t 25)⟩,⟨some 2,none,.mov (.t 26)⟩])
 (.ret)))))
def s_spec_l6Name : SFn := ⟨1, 27, c_spec_l6Name, [.t 2]⟩
/-- loop.example/g00286/spec.l6Take -/
def c_spec_l6Take : SCode :=
 .seq (.seq (.ops [⟨some 4,none,.mov (.t 0)⟩,⟨some 5,none,.mov (.t 1)⟩,⟨some 6,none,.callb spec_l6Sign [.t 4,.t 5] [true,false]⟩,⟨some 7,none,.not (.t 6)⟩])
 (.cond (.t 7) (.seq (.ops [⟨some 8,none,.mov (.t 0)⟩,⟨some 9,none,.callb spec_l6Bad [.t 8] [true]⟩])
 (.ret))
 (.skip)))
 (.ops [⟨some 10,none,.mov (.t 0)⟩,⟨some 11,none,.callb spec_l6Next [.t 10] [true]⟩])
def s_spec_l6Take : SFn := ⟨2, 12, c_spec_l6Take, []⟩
/-- loop.example/g00286/spec.l6Sign -/
def c_spec_l6Sign : SCode :=
 .seq (.ops [⟨some 4,none,.mov (.c (.bool false))⟩])
 (.seq (.ops [⟨some 6,none,.mov (.t 0)⟩,⟨some 7,none,.callb spec_l6Now [.t 6] [true]⟩,⟨some 5,none,.alloc [.v (.int .i64 0),.v (.string ⟨#[]⟩),.v (.int .i64 0),.v (.int .i64 0)]⟩,⟨none,none,.store 4 (.t 5) (.t 7)⟩])
 (.seq (.ops [⟨some 8,none,.mov (.t 0)⟩,⟨some 9,none,.nck (.t 8)⟩,⟨some 10,none,.faddr 2 (.t 9)⟩,⟨some 11,none,.load none (.t 10)⟩,⟨some 12,none,.cmp .lss (.t 11) (.c (.int .i64 0))⟩,⟨some 13,none,.mov (.t 12)⟩,⟨some 14,(some (13,true)),.faddr 0 (.t 5)⟩,⟨some 15,(some (13,true)),.load none (.t 14)⟩,⟨some 16,(some (13,true)),.cmp .eql (.t 15) (.c (.int .i64 3))⟩,⟨some 17,none,.pick (.t 13) (.t 16) (.c (.bool false))⟩,⟨some 18,none,.mov (.t 17)⟩,⟨some 19,(some (18,true)),.faddr 1 (.t 5)⟩,⟨some 20,(some (18,true)),.load none (.t 19)⟩,⟨some 21,(some (18,true)),.mov (.t 1)⟩,⟨some 22,(some (18,true)),.cmp .eql (.t 20) (.t 21)⟩,⟨some 23,none,.pick (.t 18) (.t 22) (.c (.bool false))⟩,⟨some 4,none,.mov (.t 23)⟩])
 (.ret)))
def s_spec_l6Sign : SFn := ⟨2, 24, c_spec_l6Sign, [.t 4]⟩
/-- loop.example/g00286/spec.l6Is -/
def c_spec_l6Is : SCode :=
 .seq (.ops [⟨some 4,none,.mov (.c (.bool false))⟩])
 (.seq (.ops [⟨some 6,none,.mov (.t 0)⟩,⟨some 7,none,.callb spec_l6Now [.t 6] [true]⟩,⟨some 5,none,.alloc [.v (.int .i64 0),.v (.string ⟨#[]⟩),.v (.int .i64 0),.v (.int .i64 0)]⟩,⟨none,none,.store 4 (.t 5) (.t 7)⟩])
 (.seq (.ops [⟨some 8,none,.mov (.t 0)⟩,⟨some 9,none,.nck (.t 8)⟩,⟨some 10,none,.faddr 2 (.t 9)⟩,⟨some 11,none,.load none (.t 10)⟩,⟨some 12,none,.cmp .lss (.t 11) (.c (.int .i64 0))⟩,⟨some 13,none,.mov (.t 12)⟩,⟨some 14,(some (13,true)),.faddr 0 (.t 5)⟩,⟨some 15,(some (13,true)),.load none (.t 14)⟩,⟨some 16,(some (13,true)),.cmp .eql (.t 15) (.c (.int .i64 1))⟩,⟨some 17,none,.pick (.t 13) (.t 16) (.c (.bool false))⟩,⟨some 18,none,.mov (.t 17)⟩,⟨some 19,(some (18,true)),.faddr 1 (.t 5)⟩,⟨some 20,(some (18,true)),.load none (.t 19)⟩,⟨some 21,(some (18,true)),.mov (.t 1)⟩,⟨some 22,(some (18,true)),.cmp .eql (.t 20) (.t 21)⟩,⟨some 23,none,.pick (.t 18) (.t 22) (.c (.bool false))⟩,⟨some 4,none,.mov (.t 23)⟩])
 (.ret)))
def s_spec_l6Is : SFn := ⟨2, 24, c_spec_l6Is, [.t 4]⟩
/-- loop.example/g00286/spec.l6Next -/
def c_spec_l6Next : SCode :=
 .seq (.ops [⟨some 2,none,.mov (.t 0)⟩,⟨some 3,none,.nck (.t 2)⟩,⟨some 4,none,.faddr 1 (.t 3)⟩,⟨some 5,none,.load none (.t 4)⟩,⟨some 6,none,.mov (.t 0)⟩,⟨some 7,none,.nck (.t 6)⟩,⟨some 8,none,.faddr 0 (.t 7)⟩,⟨some 9,none,.load none (.t 8)⟩,⟨some 10,none,.len (.t 9)⟩,⟨some 11,none,.ari .sub (.t 10) (.c (.int .i64 1))⟩,⟨some 12,none,.cmp .lss (.t 5) (.t 11)⟩])
 (.cond (.t 12) (.ops [⟨some 13,none,.mov (.t 0)⟩,⟨some 14,none,.nck (.t 13)⟩,⟨some 15,none,.faddr 1 (.t 14)⟩,⟨some 16,none,.load none (.t 15)⟩,⟨some 17,none,.ari .add (.t 16) (.c (.int .i64 1))⟩,⟨some 18,none,.nck (.t 13)⟩,⟨some 19,none,.faddr 1 (.t 18)⟩,⟨none,none,.store 1 (.t 19) (.t 17)⟩])
 (.skip))
def s_spec_l6Next : SFn := ⟨1, 20, c_spec_l6Next, []⟩
def b_spec_l6Block_0 : SCode :=
 .seq (.seq (.ops [⟨some 7,none,.mov (.t 0)⟩,⟨some 8,none,.nck (.t 7)⟩,⟨some 9,none,.faddr 2 (.t 8)⟩,⟨some 10,none,.load none (.t 9)⟩,⟨some 11,none,.cmp .lss (.t 10) (.c (.int .i64 0))⟩,⟨some 12,none,.mov (.t 11)⟩,⟨some 13,(some (12,true)),.mov (.t 0)⟩,⟨some 14,(some (12,true)),.callb spec_l6Sign [.t 13,.c (.string ⟨#[125]⟩)] [true,false]⟩,⟨some 15,(some (12,true)),.not (.t 14)⟩,⟨some 16,none,.pick (.t 12) (.t 15) (.c (.bool false))⟩])
 (.cond (.t 16) (.skip)
 (.seq (.keep [0,2,3]) (.exit 0))))
 (.block 1 (.opsd [⟨⟨some 17,none,.faddr 3 (.t 3)⟩,0,[]⟩,⟨⟨some 18,none,.load none (.t 17)⟩,1,[]⟩,⟨⟨some 19,none,.mov (.t 0)⟩,2,[]⟩,⟨⟨some 20,none,.callb spec_l6Stmt [.t 19] [true]⟩,3,[⟨some 17,none,.faddr 3 (.t 3)⟩,⟨some 18,none,.load none (.t 17)⟩]⟩,⟨⟨some 21,none,.lit 4 [.t 20]⟩,4,[⟨some 17,none,.faddr 3 (.t 3)⟩,⟨some 18,none,.load none (.t 17)⟩]⟩,⟨⟨some 22,none,.app 4 56 (.t 18) (.t 21)⟩,5,[]⟩,⟨⟨some 23,none,.faddr 3 (.t 3)⟩,6,[]⟩,⟨⟨none,none,.store 1 (.t 23) (.t 22)⟩,7,[]⟩]))
/-- loop.example/g00286/spec.l6Block -/
def c_spec_l6Block : SCode :=
 .seq (.ops [⟨some 2,none,.alloc [.v (.int .i64 0),.v (.string ⟨#[]⟩),.v (.int .i64 0),.s 4 []]⟩])
 (.seq (.ops [⟨some 4,none,.mov (.t 0)⟩,⟨some 5,none,.callb spec_l6Take [.t 4,.c (.string ⟨#[123]⟩)] [true,false]⟩])
 (.seq (.ops [⟨some 6,none,.build [.v (.int .i64 0),.v (.string ⟨#[]⟩),.v (.int .i64 0),.s 4 []] [(0,1,.c (.int .i64 1))]⟩,⟨some 3,none,.alloc [.v (.int .i64 0),.v (.string ⟨#[]⟩),.v (.int .i64 0),.s 4 []]⟩,⟨none,none,.store 4 (.t 3) (.t 6)⟩])
 (.seq (.block 0 (.loop [0,2,3] b_spec_l6Block_0))
 (.seq (.ops [⟨some 24,none,.mov (.t 0)⟩,⟨some 25,none,.callb spec_l6Take [.t 24,.c (.string ⟨#[125]⟩)] [true,false]⟩])
 (.seq (.ops [⟨some 26,none,.load (some 4) (.t 3)⟩,⟨none,none,.store 4 (.t 2) (.t 26)⟩])
 (.ret))))))
def s_spec_l6Block : SFn := ⟨1, 27, c_spec_l6Block, [.c 2 (some 4)]⟩
/-- loop.example/g00286/impl.token -/
def c_impl_token : SCode :=
 .seq (.ops [⟨some 4,none,.alloc [.v (.int .i64 0),.v (.string ⟨#[]⟩),.v (.int .i64 0),.v (.int .i64 0)]⟩])
 (.seq (.ops [⟨some 10,none,.mov (.t 0)⟩,⟨some 11,none,.mov (.t 1)⟩,⟨some 12,none,.ixs (.t 10) (.t 11)⟩,⟨some 5,none,.mov (.t 12)⟩])
 (.seq (.block 0 (.seq (.ops [⟨some 14,none,.mov (.t 5)⟩,⟨some 15,none,.callr impl_isLetter [.t 14]⟩,⟨some 13,none,.mov (.t 15)⟩])
 (.cond (.t 13) (.seq (.ops [⟨some 16,none,.mov (.t 0)⟩,⟨some 17,none,.mov (.t 1)⟩,⟨some 18,none,.mov (.t 1)⟩,⟨some 19,none,.mov (.t 0)⟩,⟨some 20,none,.mov (.t 1)⟩,⟨some 21,none,.calli (.f impl_run) [.t 19,.t 20,.f impl_isLetter]⟩,⟨some 22,none,.ari .add (.t 18) (.t 21)⟩,⟨some 23,none,.cutS (.t 16) (some (.t 17)) (some (.t 22))⟩,⟨some 6,none,.mov (.t 23)⟩])
 (.seq (.seq (.ops [⟨some 24,none,.mov (.t 6)⟩,⟨some 25,none,.slen (.t 24)⟩,⟨some 26,none,.cmp .gtr (.t 25) (.c (.int .i64 10))⟩])
 (.cond (.t 26) (.seq (.ops [⟨some 27,none,.build [.v (.int .i64 0),.v (.string ⟨#[]⟩),.v (.int .i64 0),.v (.int .i64 0)] []⟩,⟨none,none,.store 4 (.t 4) (.t 27)⟩])
 (.ret))
 (.skip)))
 (.seq (.ops [⟨some 28,none,.mov (.t 6)⟩,⟨some 29,none,.mov (.t 1)⟩,⟨some 30,none,.build [.v (.int .i64 0),.v (.string ⟨#[]⟩),.v (.int .i64 0),.v (.int .i64 0)] [(0,1,.c (.int .i64 1)),(1,1,.t 28),(2,1,.c (.int .i64 0)),(3,1,.t 29)]⟩,⟨none,none,.store 4 (.t 4) (.t 30)⟩])
 (.ret))))
 (.seq (.ops [⟨some 32,none,.mov (.t 5)⟩,⟨some 33,none,.callr impl_isDigit [.t 32]⟩,⟨some 31,none,.mov (.t 33)⟩])
 (.cond (.t 31) (.seq (.ops [⟨some 34,none,.mov (.t 0)⟩,⟨some 35,none,.mov (.t 1)⟩,⟨some 36,none,.mov (.t 1)⟩,⟨some 37,none,.mov (.t 0)⟩,⟨some 38,none,.mov (.t 1)⟩,⟨some 39,none,.calli (.f impl_run) [.t 37,.t 38,.f impl_isDigit]⟩,⟨some 40,none,.ari .add (.t 36) (.t 39)⟩,⟨some 41,none,.cutS (.t 34) (some (.t 35)) (some (.t 40))⟩,⟨some 7,none,.mov (.t 41)⟩])
 (.seq (.ops [⟨some 43,none,.mov (.t 7)⟩,⟨some 44,none,.callr impl_Number [.t 43]⟩,⟨some 42,none,.mov (.t 44)⟩,⟨some 45,none,.ext (.t 42) 0⟩,⟨some 46,none,.ext (.t 42) 1⟩,⟨some 8,none,.mov (.t 45)⟩,⟨some 9,none,.mov (.t 46)⟩])
 (.seq (.seq (.ops [⟨some 47,none,.mov (.t 9)⟩,⟨some 48,none,.not (.t 47)⟩])
 (.cond (.t 48) (.seq (.ops [⟨some 49,none,.build [.v (.int .i64 0),.v (.string ⟨#[]⟩),.v (.int .i64 0),.v (.int .i64 0)] []⟩,⟨none,none,.store 4 (.t 4) (.t 49)⟩])
 (.ret))
 (.skip)))
 (.seq (.ops [⟨some 50,none,.mov (.t 7)⟩,⟨some 51,none,.mov (.t 8)⟩,⟨some 52,none,.mov (.t 1)⟩,⟨some 53,none,.build [.v (.int .i64 0),.v (.string ⟨#[]⟩),.v (.int .i64 0),.v (.int .i64 0)] [(0,1,.c (.int .i64 2)),(1,1,.t 50),(2,1,.t 51),(3,1,.t 52)]⟩,⟨none,none,.store 4 (.t 4) (.t 53)⟩])
 (.ret)))))
 (.seq (.ops [⟨some 55,none,.mov (.t 0)⟩,⟨some 56,none,.mov (.t 1)⟩,⟨some 57,none,.cutS (.t 55) (some (.t 56)) none⟩,⟨some 58,none,.callr strings_HasPrefix [.t 57,.c (.string ⟨#[61,61]⟩)]⟩,⟨some 54,none,.mov (.t 58)⟩])
 (.cond (.t 54) (.seq (.ops [⟨some 59,none,.mov (.t 1)⟩,⟨some 60,none,.build [.v (.int .i64 0),.v (.string ⟨#[]⟩),.v (.int .i64 0),.v (.int .i64 0)] [(0,1,.c (.int .i64 3)),(1,1,.c (.string ⟨#[61,61]⟩)),(2,1,.c (.int .i64 0)),(3,1,.t 59)]⟩,⟨none,none,.store 4 (.t 4) (.t 60)⟩])
 (.ret))
 (.seq (.ops [⟨some 62,none,.mov (.t 5)⟩,⟨some 63,none,.callr strings_IndexByte [.c (.string ⟨#[40,41,123,125,44,59,61,43,45,42,60]⟩),.t 62]⟩,⟨some 64,none,.cmp .geq (.t 63) (.c (.int .i64 0))⟩,⟨some 61,none,.mov (.t 64)⟩])
 (.cond (.t 61) (.seq (.ops [⟨some 65,none,.mov (.t 0)⟩,⟨some 66,none,.mov (.t 1)⟩,⟨some 67,none,.mov (.t 1)⟩,⟨some 68,none,.ari .add (.t 67) (.c (.int .i64 1))⟩,⟨some 69,none,.cutS (.t 65) (some (.t 66)) (some (.t 68))⟩,⟨some 70,none,.mov (.t 1)⟩,⟨some 71,none,.build [.v (.int .i64 0),.v (.string ⟨#[]⟩),.v (.int .i64 0),.v (.int .i64 0)] [(0,1,.c (.int .i64 3)),(1,1,.t 69),(2,1,.c (.int .i64 0)),(3,1,.t 70)]⟩,⟨none,none,.store 4 (.t 4) (.t 71)⟩])
 (.ret))
 (.skip))))))))))
 (.seq (.ops [⟨some 72,none,.build [.v (.int .i64 0),.v (.string ⟨#[]⟩),.v (.int .i64 0),.v (.int .i64 0)] []⟩,⟨none,none,.store 4 (.t 4) (.t 72)⟩])
 (.ret))))
def s_impl_token : SFn := ⟨2, 73, c_impl_token, [.c 4 (some 4)]⟩
/-- (*loop.example/g00286/impl.parser).next -/
def c_impl_parser_next : SCode :=
 .seq (.ops [⟨some 2,none,.mov (.t 0)⟩,⟨some 3,none,.nck (.t 2)⟩,⟨some 4,none,.faddr 1 (.t 3)⟩,⟨some 5,none,.load none (.t 4)⟩,⟨some 6,none,.mov (.t 0)⟩,⟨some 7,none,.nck (.t 6)⟩,⟨some 8,none,.faddr 0 (.t 7)⟩,⟨some 9,none,.load none (.t 8)⟩,⟨some 10,none,.len (.t 9)⟩,⟨some 11,none,.ari .sub (.t 10) (.c (.int .i64 1))⟩,⟨some 12,none,.cmp .lss (.t 5) (.t 11)⟩])
 (.cond (.t 12) (.ops [⟨some 13,none,.mov (.t 0)⟩,⟨some 14,none,.nck (.t 13)⟩,⟨some 15,none,.faddr 1 (.t 14)⟩,⟨some 16,none,.load none (.t 15)⟩,⟨some 17,none,.ari .add (.t 16) (.c (.int .i64 1))⟩,⟨some 18,none,.nck (.t 13)⟩,⟨some 19,none,.faddr 1 (.t 18)⟩,⟨none,none,.store 1 (.t 19) (.t 17)⟩])
 (.skip))
def s_impl_parser_next : SFn := ⟨1, 20, c_impl_parser_next, []⟩
/-- (*loop.example/g00286/impl.parser).name -/
def c_impl_parser_name : SCode :=
 .seq (.ops [⟨some 2,none,.mov (.c (.string ⟨#[]⟩))⟩])
 (.seq (.ops [⟨some 4,none,.mov (.t 0)⟩,⟨some 5,none,.callb impl_parser_here [.t 4] [true]⟩,⟨some 3,none,.alloc [.v (.int .i64 0),.v (.string ⟨#[]⟩),.v (.int .i64 0),.v (.int .i64 0)]⟩,⟨none,none,.store 4 (.t 3) (.t 5)⟩])
 (.seq (.seq (.ops [⟨some 6,none,.mov (.t 0)⟩,⟨some 7,none,.nck (.t 6)⟩,⟨some 8,none,.faddr 2 (.t 7)⟩,⟨some 9,none,.load none (.t 8)⟩,⟨some 10,none,.cmp .geq (.t 9) (.c (.int .i64 0))⟩,⟨some 11,none,.mov (.t 10)⟩,⟨some 12,(some (11,false)),.mov (.t 0)⟩,⟨some 13,(some (11,false)),.callb impl_parser_isName [.t 12] [true]⟩,⟨some 14,(some (11,false)),.not (.t 13)⟩,⟨some 15,none,.pick (.t 11) (.c (.bool true)) (.t 14)⟩])
 (.cond (.t 15) (.seq (.ops [⟨some 16,none,.mov (.t 0)⟩,⟨some 17,none,.faddr 3 (.t 3)⟩,⟨some 18,none,.load none (.t 17)⟩,⟨some 19,none,.callb impl_parser_failAt [.t 16,.t 18] [true,false]⟩])
 (.seq (.ops [⟨some 2,none,.mov (.c (.string ⟨#[]⟩))⟩])
 (.ret)))
 (.skip)))
 (.seq (.ops [⟨some 20,none,.mov (.t 0)⟩,⟨some 21,none,.callb impl_parser_next [.t 20] [true]⟩])
 (.seq (.ops [⟨some 22,none,.faddr 1 (.t 3)⟩,⟨some 23,none,.load none (.t 22)⟩,⟨some 2,none,.mov (.t 23)⟩])
 (.ret)))))
def s_impl_parser_name : SFn := ⟨1, 24, c_impl_parser_name, [.t 2]⟩
/-- (*loop.example/g00286/impl.parser).need -/
def c_impl_parser_need : SCode :=
 .seq (.ops [⟨some 4,none,.mov (.t 0)⟩,⟨some 5,none,.mov (.t 1)⟩,⟨some 6,none,.callb impl_parser_take [.t 4,.t 5] [true,false]⟩,⟨some 7,none,.not (.t 6)⟩])
 (.cond (.t 7) (.ops [⟨some 8,none,.mov (.t 0)⟩,⟨some 9,none,.mov (.t 0)⟩,⟨some 10,none,.callb impl_parser_here [.t 9] [true]⟩,⟨some 11,none,.fld 3 none (.t 10)⟩,⟨some 12,none,.callb impl_parser_failAt [.t 8,.t 11] [true,false]⟩])
 (.skip))
def s_impl_parser_need : SFn := ⟨2, 13, c_impl_parser_need, []⟩
def b_impl_parser_block_0 : SCode :=
 .seq (.seq (.ops [⟨some 8,none,.mov (.t 0)⟩,⟨some 9,none,.nck (.t 8)⟩,⟨some 10,none,.faddr 2 (.t 9)⟩,⟨some 11,none,.load none (.t 10)⟩,⟨some 12,none,.cmp .lss (.t 11) (.c (.int .i64 0))⟩,⟨some 13,none,.mov (.t 12)⟩,⟨some 14,(some (13,true)),.mov (.t 0)⟩,⟨some 15,(some (13,true)),.callb impl_parser_take [.t 14,.c (.string ⟨#[125]⟩)] [true,false]⟩,⟨some 16,(some (13,true)),.not (.t 15)⟩,⟨some 17,none,.pick (.t 13) (.t 16) (.c (.bool false))⟩])
 (.cond (.t 17) (.skip)
 (.seq (.keep [2,3]) (.exit 0))))
 (.block 1 (.seq (.ops [⟨some 18,none,.mov (.t 0)⟩,⟨some 19,none,.callb impl_parser_statement [.t 18] [true]⟩,⟨some 4,none,.alloc [.v (.int .i64 0),.v (.string ⟨#[]⟩),.v (.int .i64 0),.s 4 []]⟩,⟨none,none,.store 4 (.t 4) (.t 19)⟩])
 (.ops [⟨some 20,none,.faddr 3 (.t 3)⟩,⟨some 21,none,.load none (.t 20)⟩,⟨some 22,none,.load (some 4) (.t 4)⟩,⟨some 23,none,.lit 4 [.t 22]⟩,⟨some 24,none,.app 4 56 (.t 21) (.t 23)⟩,⟨some 25,none,.faddr 3 (.t 3)⟩,⟨none,none,.store 1 (.t 25) (.t 24)⟩])))
/-- (*loop.example/g00286/impl.parser).block -/
def c_impl_parser_block : SCode :=
 .seq (.ops [⟨some 2,none,.alloc [.v (.int .i64 0),.v (.string ⟨#[]⟩),.v (.int .i64 0),.s 4 []]⟩])
 (.seq (.ops [⟨some 5,none,.build [.v (.int .i64 0),.v (.string ⟨#[]⟩),.v (.int .i64 0),.s 4 []] [(0,1,.c (.int .i64 1))]⟩,⟨some 3,none,.alloc [.v (.int .i64 0),.v (.string ⟨#[]⟩),.v (.int .i64 0),.s 4 []]⟩,⟨none,none,.store 4 (.t 3) (.t 5)⟩])
 (.seq (.ops [⟨some 6,none,.mov (.t 0)⟩,⟨some 7,none,.callb impl_parser_need [.t 6,.c (.string ⟨#[123]⟩)] [true,false]⟩])
 (.seq (.block 0 (.loop [0,2,3] b_impl_parser_block_0))
 (.seq (.ops [⟨some 26,none,.load (some 4) (.t 3)⟩,⟨none,none,.store 4 (.t 2) (.t 26)⟩])
 (.ret)))))
def s_impl_parser_block : SFn := ⟨1, 27, c_impl_parser_block, [.c 2 (some 4)]⟩
def b_laws_eqParamS_0 : SCode :=
 .seq (.seq (.ops [⟨some 11,none,.mov (.t 5)⟩,⟨some 12,none,.mov (.t 0)⟩,⟨some 13,none,.len (.t 12)⟩,⟨some 14,none,.cmp .lss (.t 11) (.t 13)⟩])
 (.cond (.t 14) (.skip)
 (.seq (.keep []) (.exit 0))))
 (.seq (.block 1 (.seq (.ops [⟨some 17,none,.mov (.t 0)⟩,⟨some 18,none,.mov (.t 5)⟩,⟨some 19,none,.ixa 2 (.t 17) (.t 18)⟩,⟨some 20,none,.load (some 2) (.t 19)⟩,⟨some 21,none,.mov (.t 1)⟩,⟨some 22,none,.mov (.t 5)⟩,⟨some 23,none,.ixa 2 (.t 21) (.t 22)⟩,⟨some 24,none,.load (some 2) (.t 23)⟩,⟨some 25,none,.callr laws_eqParam [.t 20,.t 24]⟩,⟨some 26,none,.not (.t 25)⟩])
 (.cond (.t 26) (.seq (.ops [⟨some 4,none,.mov (.c (.bool false))⟩])
 (.seq (.keep [4]) .ret))
 (.skip))))
 (.ops [⟨some 15,none,.mov (.t 5)⟩,⟨some 16,none,.ari .add (.t 15) (.c (.int .i64 1))⟩,⟨some 5,none,.mov (.t 16)⟩]))
/-- loop.example/g00286/laws.eqParamS -/
def c_laws_eqParamS : SCode :=
 .seq (.ops [⟨some 4,none,.mov (.c (.bool false))⟩])
 (.seq (.seq (.ops [⟨some 6,none,.mov (.t 0)⟩,⟨some 7,none,.len (.t 6)⟩,⟨some 8,none,.mov (.t 1)⟩,⟨some 9,none,.len (.t 8)⟩,⟨some 10,none,.cmp .neq (.t 7) (.t 9)⟩])
 (.cond (.t 10) (.seq (.ops [⟨some 4,none,.mov (.c (.bool false))⟩])
 (.ret))
 (.skip)))
 (.seq (.seq (.ops [⟨some 5,none,.mov (.c (.int .i64 0))⟩])
 (.block 0 (.loop [0,1,5] b_laws_eqParamS_0)))
 (.seq (.ops [⟨some 4,none,.mov (.c (.bool true))⟩])
 (.ret))))
def s_laws_eqParamS : SFn := ⟨2, 27, c_laws_eqParamS, [.t 4]⟩
/-- loop.example/g00286/laws.eqNode -/
def c_laws_eqNode : SCode :=
 .seq (.ops [⟨some 2,none,.vbox 4 (.t 0)⟩,⟨some 3,none,.vbox 4 (.t 1)⟩,⟨some 4,none,.mov (.c (.bool false))⟩])
 (.seq (.seq (.ops [⟨some 5,none,.faddr 0 (.t 2)⟩,⟨some 6,none,.load none (.t 5)⟩,⟨some 7,none,.faddr 0 (.t 3)⟩,⟨some 8,none,.load none (.t 7)⟩,⟨some 9,none,.cmp .neq (.t 6) (.t 8)⟩])
 (.cond (.t 9) (.seq (.ops [⟨some 4,none,.mov (.c (.bool false))⟩])
 (.ret))
 (.skip)))
 (.seq (.seq (.ops [⟨some 10,none,.faddr 1 (.t 2)⟩,⟨some 11,none,.load none (.t 10)⟩,⟨some 12,none,.faddr 1 (.t 3)⟩,⟨some 13,none,.load none (.t 12)⟩,⟨some 14,none,.cmp .neq (.t 11) (.t 13)⟩])
 (.cond (.t 14) (.seq (.ops [⟨some 4,none,.mov (.c (.bool false))⟩])
 (.ret))
 (.skip)))
 (.seq (.seq (.ops [⟨some 15,none,.faddr 2 (.t 2)⟩,⟨some 16,none,.load none (.t 15)⟩,⟨some 17,none,.faddr 2 (.t 3)⟩,⟨some 18,none,.load none (.t 17)⟩,⟨some 19,none,.cmp .neq (.t 16) (.t 18)⟩])
 (.cond (.t 19) (.seq (.ops [⟨some 4,none,.mov (.c (.bool false))⟩])
 (.ret))
 (.skip)))
 (.seq (.seq (.ops [⟨some 20,none,.faddr 3 (.t 2)⟩,⟨some 21,none,.load none (.t 20)⟩,⟨some 22,none,.faddr 3 (.t 3)⟩,⟨some 23,none,.load none (.t 22)⟩,⟨some 24,none,.callr laws_eqNodeS [.t 21,.t 23]⟩,⟨some 25,none,.not (.t 24)⟩])
 (.cond (.t 25) (.seq (.ops [⟨some 4,none,.mov (.c (.bool false))⟩])
 (.ret))
 (.skip)))
 (.seq (.ops [⟨some 4,none,.mov (.c (.bool true))⟩])
 (.ret))))))
def s_laws_eqNode : SFn := ⟨2, 26, c_laws_eqNode, [.t 4]⟩
/-- loop.example/g00286/spec.l5Letter -/
def c_spec_l5Letter : SCode :=
 .seq (.ops [⟨some 2,none,.mov (.c (.bool false))⟩])
 (.seq (.ops [⟨some 3,none,.mov (.t 0)⟩,⟨some 4,none,.cmp .geq (.t 3) (.c (.int .u8 97))⟩,⟨some 5,none,.mov (.t 4)⟩,⟨some 6,(some (5,true)),.mov (.t 0)⟩,⟨some 7,(some (5,true)),.cmp .leq (.t 6) (.c (.int .u8 122))⟩,⟨some 8,none,.pick (.t 5) (.t 7) (.c (.bool false))⟩,⟨some 9,none,.mov (.t 8)⟩,⟨some 10,(some (9,false)),.mov (.t 0)⟩,⟨some 11,(some (9,false)),.cmp .geq (.t 10) (.c (.int .u8 65))⟩,⟨some 12,(some (9,false)),.mov (.t 11)⟩,⟨some 13,(some (12,true)),.mov (.t 0)⟩,⟨some 14,(some (12,true)),.cmp .leq (.t 13) (.c (.int .u8 90))⟩,⟨some 15,(some (9,false)),.pick (.t 12) (.t 14) (.c (.bool false))⟩,⟨some 16,none,.pick (.t 9) (.c (.bool true)) (.t 15)⟩,⟨some 2,none,.mov (.t 16)⟩])
 (.ret))
def s_spec_l5Letter : SFn := ⟨1, 17, c_spec_l5Letter, [.t 2]⟩
/-- loop.example/g00286/spec.l5Digit -/
def c_spec_l5Digit : SCode :=
 .seq (.ops [⟨some 2,none,.mov (.c (.bool false))⟩])
 (.seq (.ops [⟨some 3,none,.mov (.t 0)⟩,⟨some 4,none,.cmp .geq (.t 3) (.c (.int .u8 48))⟩,⟨some 5,none,.mov (.t 4)⟩,⟨some 6,(some (5,true)),.mov (.t 0)⟩,⟨some 7,(some (5,true)),.cmp .leq (.t 6) (.c (.int .u8 57))⟩,⟨some 8,none,.pick (.t 5) (.t 7) (.c (.bool false))⟩,⟨some 2,none,.mov (.t 8)⟩])
 (.ret))
def s_spec_l5Digit : SFn := ⟨1, 9, c_spec_l5Digit, [.t 2]⟩
def b_spec_Number_0 : SCode :=
 .seq (.seq (.ops [⟨some 27,none,.mov (.t 6)⟩,⟨some 28,none,.mov (.t 0)⟩,⟨some 29,none,.slen (.t 28)⟩,⟨some 30,none,.cmp .lss (.t 27) (.t 29)⟩])
 (.cond (.t 30) (.skip)
 (.seq (.keep [0,4,5]) (.exit 0))))
 (.seq (.block 1 (.seq (.seq (.ops [⟨some 33,none,.mov (.t 0)⟩,⟨some 34,none,.mov (.t 6)⟩,⟨some 35,none,.ixs (.t 33) (.t 34)⟩,⟨some 36,none,.cmp .lss (.t 35) (.c (.int .u8 48))⟩,⟨some 37,none,.mov (.t 36)⟩,⟨some 38,(some (37,false)),.mov (.t 0)⟩,⟨some 39,(some (37,false)),.mov (.t 6)⟩,⟨some 40,(some (37,false)),.ixs (.t 38) (.t 39)⟩,⟨some 41,(some (37,false)),.cmp .gtr (.t 40) (.c (.int .u8 57))⟩,⟨some 42,none,.pick (.t 37) (.c (.bool true)) (.t 41)⟩])
 (.cond (.t 42) (.seq (.ops [⟨some 2,none,.mov (.c (.int .i64 0))⟩,⟨some 3,none,.mov (.c (.bool false))⟩])
 (.seq (.keep [2,3]) .ret))
 (.skip)))
 (.ops [⟨some 43,none,.mov (.t 5)⟩,⟨some 44,none,.ari .mul (.c (.int .i64 10)) (.t 43)⟩,⟨some 45,none,.mov (.t 0)⟩,⟨some 46,none,.mov (.t 6)⟩,⟨some 47,none,.ixs (.t 45) (.t 46)⟩,⟨some 48,none,.conv .i64 (.t 47)⟩,⟨some 49,none,.ari .add (.t 44) (.t 48)⟩,⟨some 50,none,.ari .sub (.t 49) (.c (.int .i64 48))⟩,⟨some 5,none,.mov (.t 50)⟩])))
 (.ops [⟨some 31,none,.mov (.t 6)⟩,⟨some 32,none,.ari .add (.t 31) (.c (.int .i64 1))⟩,⟨some 6,none,.mov (.t 32)⟩]))
/-- loop.example/g00286/spec.Number -/
def c_spec_Number : SCode :=
 .seq (.ops [⟨some 2,none,.mov (.c (.int .i64 0))⟩,⟨some 3,none,.mov (.c (.bool false))⟩])
 (.seq (.ops [⟨some 4,none,.mov (.c (.int .i64 0))⟩])
 (.seq (.seq (.ops [⟨some 7,none,.mov (.t 0)⟩,⟨some 8,none,.cmp .neq (.t 7) (.c (.string ⟨#[]⟩))⟩,⟨some 9,none,.mov (.t 8)⟩,⟨some 10,(some (9,true)),.mov (.t 0)⟩,⟨some 11,(some (9,true)),.ixs (.t 10) (.c (.int .i64 0))⟩,⟨some 12,(some (9,true)),.cmp .eql (.t 11) (.c (.int .u8 45))⟩,⟨some 13,none,.pick (.t 9) (.t 12) (.c (.bool false))⟩])
 (.cond (.t 13) (.ops [⟨some 4,none,.mov (.c (.int .i64 1))⟩])
 (.skip)))
 (.seq (.seq (.ops [⟨some 14,none,.mov (.t 0)⟩,⟨some 15,none,.slen (.t 14)⟩,⟨some 16,none,.mov (.t 4)⟩,⟨some 17,none,.ari .sub (.t 15) (.t 16)⟩,⟨some 18,none,.cmp .lss (.t 17) (.c (.int .i64 1))⟩,⟨some 19,none,.mov (.t 18)⟩,⟨some 20,(some (19,false)),.mov (.t 0)⟩,⟨some 21,(some (19,false)),.slen (.t 20)⟩,⟨some 22,(some (19,false)),.mov (.t 4)⟩,⟨some 23,(some (19,false)),.ari .sub (.t 21) (.t 22)⟩,⟨some 24,(some (19,false)),.cmp .gtr (.t 23) (.c (.int .i64 10))⟩,⟨some 25,none,.pick (.t 19) (.c (.bool true)) (.t 24)⟩])
 (.cond (.t 25) (.seq (.ops [⟨some 2,none,.mov (.c (.int .i64 0))⟩,⟨some 3,none,.mov (.c (.bool false))⟩])
 (.ret))
 (.skip)))
 (.seq (.ops [⟨some 5,none,.mov (.c (.int .i64 0))⟩])
 (.seq (.seq (.ops [⟨some 26,none,.mov (.t 4)⟩,⟨some 6,none,.mov (.t 26)⟩])
 (.block 0 (.loop [0,4,5,6] b_spec_Number_0)))
 (.seq (.seq (.ops [⟨some 51,none,.mov (.t 4)⟩,⟨some 52,none,.cmp .eql (.t 51) (.c (.int .i64 1))⟩])
 (.cond (.t 52) (.ops [⟨some 53,none,.mov (.t 5)⟩,⟨some 54,none,.ari .sub (.c (.int .i64 0)) (.t 53)⟩,⟨some 5,none,.mov (.t 54)⟩])
 (.skip)))
 (.seq (.seq (.ops [⟨some 55,none,.mov (.t 5)⟩,⟨some 56,none,.callr spec_WordOk [.t 55]⟩,⟨some 57,none,.not (.t 56)⟩,⟨some 58,none,.mov (.t 57)⟩,⟨some 59,(some (58,false)),.mov (.t 5)⟩,⟨some 60,(some (58,false)),.callr spec_Digits [.t 59]⟩,⟨some 61,(some (58,false)),.mov (.t 0)⟩,⟨some 62,(some (58,false)),.cmp .neq (.t 60) (.t 61)⟩,⟨some 63,none,.pick (.t 58) (.c (.bool true)) (.t 62)⟩])
 (.cond (.t 63) (.seq (.ops [⟨some 2,none,.mov (.c (.int .i64 0))⟩,⟨some 3,none,.mov (.c (.bool false))⟩])
 (.ret))
 (.skip)))
 (.seq (.ops [⟨some 64,none,.mov (.t 5)⟩,⟨some 2,none,.mov (.t 64)⟩,⟨some 3,none,.mov (.c (.bool true))⟩])
 (.ret)))))))))
def s_spec_Number : SFn := ⟨1, 65, c_spec_Number, [.t 2, .t 3]⟩
def b_spec_l5Sign_0 : SCode :=
 .seq (.seq (.ops [⟨some 25,none,.mov (.t 6)⟩,⟨some 26,none,.mov (.t 5)⟩,⟨some 27,none,.slen (.t 26)⟩,⟨some 28,none,.cmp .lss (.t 25) (.t 27)⟩])
 (.cond (.t 28) (.skip)
 (.seq (.keep []) (.exit 0))))
 (.seq (.block 1 (.seq (.ops [⟨some 31,none,.mov (.t 5)⟩,⟨some 32,none,.mov (.t 6)⟩,⟨some 33,none,.ixs (.t 31) (.t 32)⟩,⟨some 34,none,.mov (.t 0)⟩,⟨some 35,none,.mov (.t 1)⟩,⟨some 36,none,.ixs (.t 34) (.t 35)⟩,⟨some 37,none,.cmp .eql (.t 33) (.t 36)⟩])
 (.cond (.t 37) (.seq (.ops [⟨some 38,none,.mov (.t 0)⟩,⟨some 39,none,.mov (.t 1)⟩,⟨some 40,none,.mov (.t 1)⟩,⟨some 41,none,.ari .add (.t 40) (.c (.int .i64 1))⟩,⟨some 42,none,.cutS (.t 38) (some (.t 39)) (some (.t 41))⟩,⟨some 4,none,.mov (.t 42)⟩])
 (.seq (.keep [4]) .ret))
 (.skip))))
 (.ops [⟨some 29,none,.mov (.t 6)⟩,⟨some 30,none,.ari .add (.t 29) (.c (.int .i64 1))⟩,⟨some 6,none,.mov (.t 30)⟩]))
/-- loop.example/g00286/spec.l5Sign -/
def c_spec_l5Sign : SCode :=
 .seq (.ops [⟨some 4,none,.mov (.c (.string ⟨#[]⟩))⟩])
 (.seq (.seq (.ops [⟨some 7,none,.mov (.t 0)⟩,⟨some 8,none,.mov (.t 1)⟩,⟨some 9,none,.ixs (.t 7) (.t 8)⟩,⟨some 10,none,.cmp .eql (.t 9) (.c (.int .u8 61))⟩,⟨some 11,none,.mov (.t 10)⟩,⟨some 12,(some (11,true)),.mov (.t 1)⟩,⟨some 13,(some (11,true)),.ari .add (.t 12) (.c (.int .i64 1))⟩,⟨some 14,(some (11,true)),.mov (.t 0)⟩,⟨some 15,(some (11,true)),.slen (.t 14)⟩,⟨some 16,(some (11,true)),.cmp .lss (.t 13) (.t 15)⟩,⟨some 17,none,.pick (.t 11) (.t 16) (.c (.bool false))⟩,⟨some 18,none,.mov (.t 17)⟩,⟨some 19,(some (18,true)),.mov (.t 0)⟩,⟨some 20,(some (18,true)),.mov (.t 1)⟩,⟨some 21,(some (18,true)),.ari .add (.t 20) (.c (.int .i64 1))⟩,⟨some 22,(some (18,true)),.ixs (.t 19) (.t 21)⟩,⟨some 23,(some (18,true)),.cmp .eql (.t 22) (.c (.int .u8 61))⟩,⟨some 24,none,.pick (.t 18) (.t 23) (.c (.bool false))⟩])
 (.cond (.t 24) (.seq (.ops [⟨some 4,none,.mov (.c (.string ⟨#[61,61]⟩))⟩])
 (.ret))
 (.skip)))
 (.seq (.ops [⟨some 5,none,.mov (.c (.string ⟨#[40,41,123,125,44,59,61,43,45,42,60]⟩))⟩])
 (.seq (.seq (.ops [⟨some 6,none,.mov (.c (.int .i64 0))⟩])
 (.block 0 (.loop [0,1,5,6] b_spec_l5Sign_0)))
 (.seq (.ops [⟨some 4,none,.mov (.c (.string ⟨#[]⟩))⟩])
 (.ret)))))
def s_spec_l5Sign : SFn := ⟨2, 43, c_spec_l5Sign, [.t 4]⟩
/-- loop.example/g00286/spec.l6Bad -/
def c_spec_l6Bad : SCode :=
 .seq (.ops [⟨some 2,none,.mov (.t 0)⟩,⟨some 3,none,.nck (.t 2)⟩,⟨some 4,none,.faddr 2 (.t 3)⟩,⟨some 5,none,.load none (.t 4)⟩,⟨some 6,none,.cmp .lss (.t 5) (.c (.int .i64 0))⟩])
 (.cond (.t 6) (.ops [⟨some 7,none,.mov (.t 0)⟩,⟨some 8,none,.mov (.t 0)⟩,⟨some 9,none,.callb spec_l6Now [.t 8] [true]⟩,⟨some 10,none,.fld 3 none (.t 9)⟩,⟨some 11,none,.nck (.t 7)⟩,⟨some 12,none,.faddr 2 (.t 11)⟩,⟨none,none,.store 1 (.t 12) (.t 10)⟩])
 (.skip))
def s_spec_l6Bad : SFn := ⟨1, 13, c_spec_l6Bad, []⟩
def b_spec_Keyword_0 : SCode :=
 .seq (.seq (.ops [⟨some 6,none,.mov (.t 4)⟩,⟨some 7,none,.mov (.t 3)⟩,⟨some 8,none,.len (.t 7)⟩,⟨some 9,none,.cmp .lss (.t 6) (.t 8)⟩])
 (.cond (.t 9) (.skip)
 (.seq (.keep []) (.exit 0))))
 (.seq (.block 1 (.seq (.ops [⟨some 12,none,.mov (.t 3)⟩,⟨some 13,none,.mov (.t 4)⟩,⟨some 14,none,.ixa 1 (.t 12) (.t 13)⟩,⟨some 15,none,.load none (.t 14)⟩,⟨some 16,none,.mov (.t 0)⟩,⟨some 17,none,.cmp .eql (.t 15) (.t 16)⟩])
 (.cond (.t 17) (.seq (.ops [⟨some 2,none,.mov (.c (.bool true))⟩])
 (.seq (.keep [2]) .ret))
 (.skip))))
 (.ops [⟨some 10,none,.mov (.t 4)⟩,⟨some 11,none,.ari .add (.t 10) (.c (.int .i64 1))⟩,⟨some 4,none,.mov (.t 11)⟩]))
/-- loop.example/g00286/spec.Keyword -/
def c_spec_Keyword : SCode :=
 .seq (.ops [⟨some 2,none,.mov (.c (.bool false))⟩])
 (.seq (.ops [⟨some 5,none,.lit 1 [.c (.string ⟨#[102,117,110,99]⟩),.c (.string ⟨#[108,101,116]⟩),.c (.string ⟨#[105,102]⟩),.c (.string ⟨#[101,108,115,101]⟩),.c (.string ⟨#[119,104,105,108,101]⟩),.c (.string ⟨#[112,114,105,110,116]⟩),.c (.string ⟨#[114,101,116,117,114,110]⟩),.c (.string ⟨#[103,111]⟩),.c (.string ⟨#[115,101,110,100]⟩),.c (.string ⟨#[114,101,99,118]⟩),.c (.string ⟨#[99,108,111,115,101]⟩),.c (.string ⟨#[115,101,108,101,99,116]⟩),.c (.string ⟨#[99,97,115,101]⟩),.c (.string ⟨#[100,101,102,97,117,108,116]⟩),.c (.string ⟨#[109,97,107,101]⟩),.c (.string ⟨#[99,104,97,110]⟩),.c (.string ⟨#[112,111,107,101]⟩),.c (.string ⟨#[110,111,116,101]⟩),.c (.string ⟨#[115,119,97,112]⟩),.c (.string ⟨#[104,97,108,116]⟩),.c (.string ⟨#[111,117,116]⟩),.c (.string ⟨#[112,101,101,107]⟩),.c (.string ⟨#[99,97,115]⟩),.c (.string ⟨#[99,111,114,101]⟩),.c (.string ⟨#[97,100,100,114]⟩)]⟩,⟨some 3,none,.mov (.t 5)⟩])
 (.seq (.seq (.ops [⟨some 4,none,.mov (.c (.int .i64 0))⟩])
 (.block 0 (.loop [0,3,4] b_spec_Keyword_0)))
 (.seq (.ops [⟨some 2,none,.mov (.c (.bool false))⟩])
 (.ret))))
def s_spec_Keyword : SFn := ⟨1, 18, c_spec_Keyword, [.t 2]⟩
/-- loop.example/g00286/spec.l6Stmt -/
def c_spec_l6Stmt : SCode :=
 .seq (.ops [⟨some 2,none,.alloc [.v (.int .i64 0),.v (.string ⟨#[]⟩),.v (.int .i64 0),.s 4 []]⟩])
 (.seq (.block 0 (.seq (.ops [⟨some 7,none,.mov (.t 0)⟩,⟨some 8,none,.callb spec_l6Is [.t 7,.c (.string ⟨#[105,102]⟩)] [true,false]⟩,⟨some 6,none,.mov (.t 8)⟩])
 (.cond (.t 6) (.seq (.ops [⟨some 9,none,.mov (.t 0)⟩,⟨some 10,none,.callb spec_l6If [.t 9,.c (.int .i64 4)] [true,false]⟩,⟨none,none,.store 4 (.t 2) (.t 10)⟩])
 (.ret))
 (.seq (.ops [⟨some 12,none,.mov (.t 0)⟩,⟨some 13,none,.callb spec_l6Is [.t 12,.c (.string ⟨#[119,104,105,108,101]⟩)] [true,false]⟩,⟨some 11,none,.mov (.t 13)⟩])
 (.cond (.t 11) (.seq (.ops [⟨some 14,none,.mov (.t 0)⟩,⟨some 15,none,.callb spec_l6If [.t 14,.c (.int .i64 5)] [true,false]⟩,⟨none,none,.store 4 (.t 2) (.t 15)⟩])
 (.ret))
 (.seq (.ops [⟨some 17,none,.mov (.t 0)⟩,⟨some 18,none,.callb spec_l6Is [.t 17,.c (.string ⟨#[115,101,108,101,99,116]⟩)] [true,false]⟩,⟨some 16,none,.mov (.t 18)⟩])
 (.cond (.t 16) (.seq (.ops [⟨some 19,none,.mov (.t 0)⟩,⟨some 20,none,.callb spec_l6Select [.t 19] [true]⟩,⟨none,none,.store 4 (.t 2) (.t 20)⟩])
 (.ret))
 (.seq (.ops [⟨some 22,none,.mov (.t 0)⟩,⟨some 23,none,.callb spec_l6Begins [.t 22] [true]⟩,⟨some 21,none,.mov (.t 23)⟩])
 (.cond (.t 21) (.seq (.ops [⟨some 24,none,.mov (.t 0)⟩,⟨some 25,none,.callb spec_l6Simple [.t 24] [true]⟩,⟨some 3,none,.alloc [.v (.int .i64 0),.v (.string ⟨#[]⟩),.v (.int .i64 0),.s 4 []]⟩,⟨none,none,.store 4 (.t 3) (.t 25)⟩])
 (.seq (.ops [⟨some 26,none,.mov (.t 0)⟩,⟨some 27,none,.callb spec_l6Take [.t 26,.c (.string ⟨#[59]⟩)] [true,false]⟩])
 (.seq (.ops [⟨some 28,none,.load (some 4) (.t 3)⟩,⟨none,none,.store 4 (.t 2) (.t 28)⟩])
 (.ret))))
 (.skip))))))))))
 (.seq (.ops [⟨some 29,none,.mov (.t 0)⟩,⟨some 30,none,.callb spec_l6Expr [.t 29] [true]⟩,⟨some 4,none,.alloc [.v (.int .i64 0),.v (.string ⟨#[]⟩),.v (.int .i64 0),.s 4 []]⟩,⟨none,none,.store 4 (.t 4) (.t 30)⟩])
 (.seq (.seq (.ops [⟨some 31,none,.faddr 0 (.t 4)⟩,⟨some 32,none,.load none (.t 31)⟩,⟨some 33,none,.cmp .eql (.t 32) (.c (.int .i64 20))⟩,⟨some 34,none,.mov (.t 33)⟩,⟨some 35,(some (34,true)),.mov (.t 0)⟩,⟨some 36,(some (34,true)),.callb spec_l6Sign [.t 35,.c (.string ⟨#[61]⟩)] [true,false]⟩,⟨some 37,none,.pick (.t 34) (.t 36) (.c (.bool false))⟩])
 (.cond (.t 37) (.seq (.ops [⟨some 38,none,.mov (.t 0)⟩,⟨some 39,none,.callb spec_l6Next [.t 38] [true]⟩])
 (.seq (.ops [⟨some 40,none,.mov (.t 0)⟩,⟨some 41,none,.callb spec_l6Expr [.t 40] [true]⟩,⟨some 5,none,.alloc [.v (.int .i64 0),.v (.string ⟨#[]⟩),.v (.int .i64 0),.s 4 []]⟩,⟨none,none,.store 4 (.t 5) (.t 41)⟩])
 (.seq (.ops [⟨some 42,none,.mov (.t 0)⟩,⟨some 43,none,.callb spec_l6Take [.t 42,.c (.string ⟨#[59]⟩)] [true,false]⟩])
 (.seq (.ops [⟨some 44,none,.faddr 1 (.t 4)⟩,⟨some 45,none,.load none (.t 44)⟩,⟨some 46,none,.load (some 4) (.t 5)⟩,⟨some 47,none,.lit 4 [.t 46]⟩,⟨some 48,none,.build [.v (.int .i64 0),.v (.string ⟨#[]⟩),.v (.int .i64 0),.s 4 []] [(0,1,.c (.int .i64 3)),(1,1,.t 45),(3,1,.t 47)]⟩,⟨none,none,.store 4 (.t 2) (.t 48)⟩])
 (.ret)))))
 (.skip)))
 (.seq (.ops [⟨some 49,none,.mov (.t 0)⟩,⟨some 50,none,.callb spec_l6Take [.t 49,.c (.string ⟨#[59]⟩)] [true,false]⟩])
 (.seq (.ops [⟨some 51,none,.load (some 4) (.t 4)⟩,⟨some 52,none,.lit 4 [.t 51]⟩,⟨some 53,none,.callb spec_l6Node [.c (.int .i64 18),.t 52] [false,true]⟩,⟨none,none,.store 4 (.t 2) (.t 53)⟩])
 (.ret))))))
def s_spec_l6Stmt : SFn := ⟨1, 54, c_spec_l6Stmt, [.c 2 (some 4)]⟩
/-- loop.example/g00286/impl.isLetter -/
def c_impl_isLetter : SCode :=
 .seq (.ops [⟨some 2,none,.mov (.c (.bool false))⟩])
 (.seq (.ops [⟨some 3,none,.mov (.t 0)⟩,⟨some 4,none,.cmp .geq (.t 3) (.c (.int .u8 97))⟩,⟨some 5,none,.mov (.t 4)⟩,⟨some 6,(some (5,true)),.mov (.t 0)⟩,⟨some 7,(some (5,true)),.cmp .leq (.t 6) (.c (.int .u8 122))⟩,⟨some 8,none,.pick (.t 5) (.t 7) (.c (.bool false))⟩,⟨some 9,none,.mov (.t 8)⟩,⟨some 10,(some (9,false)),.mov (.t 0)⟩,⟨some 11,(some (9,false)),.cmp .geq (.t 10) (.c (.int .u8 65))⟩,⟨some 12,(some (9,false)),.mov (.t 11)⟩,⟨some 13,(some (12,true)),.mov (.t 0)⟩,⟨some 14,(some (12,true)),.cmp .leq (.t 13) (.c (.int .u8 90))⟩,⟨some 15,(some (9,false)),.pick (.t 12) (.t 14) (.c (.bool false))⟩,⟨some 16,none,.pick (.t 9) (.c (.bool true)) (.t 15)⟩,⟨some 2,none,.mov (.t 16)⟩])
 (.ret))
def s_impl_isLetter : SFn := ⟨1, 17, c_impl_isLetter, [.t 2]⟩
def b_impl_run_0 : SCode :=
 .seq (.seq (.ops [⟨some 8,none,.mov (.t 1)⟩,⟨some 9,none,.mov (.t 7)⟩,⟨some 10,none,.ari .add (.t 8) (.t 9)⟩,⟨some 11,none,.mov (.t 0)⟩,⟨some 12,none,.slen (.t 11)⟩,⟨some 13,none,.cmp .lss (.t 10) (.t 12)⟩,⟨some 14,none,.mov (.t 13)⟩,⟨some 15,(some (14,true)),.mov (.t 2)⟩,⟨some 16,(some (14,true)),.mov (.t 0)⟩,⟨some 17,(some (14,true)),.mov (.t 1)⟩,⟨some 18,(some (14,true)),.mov (.t 7)⟩,⟨some 19,(some (14,true)),.ari .add (.t 17) (.t 18)⟩,⟨some 20,(some (14,true)),.ixs (.t 16) (.t 19)⟩,⟨some 21,(some (14,true)),.calli (.t 15) [.t 20]⟩,⟨some 22,none,.pick (.t 14) (.t 21) (.c (.bool false))⟩])
 (.cond (.t 22) (.skip)
 (.seq (.keep [7]) (.exit 0))))
 (.block 1 (.ops [⟨some 23,none,.mov (.t 7)⟩,⟨some 24,none,.ari .add (.t 23) (.c (.int .i64 1))⟩,⟨some 7,none,.mov (.t 24)⟩]))
/-- loop.example/g00286/impl.run -/
def c_impl_run : SCode :=
 .seq (.ops [⟨some 6,none,.mov (.c (.int .i64 0))⟩])
 (.seq (.ops [⟨some 7,none,.mov (.c (.int .i64 0))⟩])
 (.seq (.block 0 (.loop [0,1,2,7] b_impl_run_0))
 (.seq (.ops [⟨some 25,none,.mov (.t 7)⟩,⟨some 6,none,.mov (.t 25)⟩])
 (.ret))))
def s_impl_run : SFn := ⟨3, 26, c_impl_run, [.t 6]⟩
/-- loop.example/g00286/impl.isDigit -/
def c_impl_isDigit : SCode :=
 .seq (.ops [⟨some 2,none,.mov (.c (.bool false))⟩])
 (.seq (.ops [⟨some 3,none,.mov (.t 0)⟩,⟨some 4,none,.cmp .geq (.t 3) (.c (.int .u8 48))⟩,⟨some 5,none,.mov (.t 4)⟩,⟨some 6,(some (5,true)),.mov (.t 0)⟩,⟨some 7,(some (5,true)),.cmp .leq (.t 6) (.c (.int .u8 57))⟩,⟨some 8,none,.pick (.t 5) (.t 7) (.c (.bool false))⟩,⟨some 2,none,.mov (.t 8)⟩])
 (.ret))
def s_impl_isDigit : SFn := ⟨1, 9, c_impl_isDigit, [.t 2]⟩
def b_impl_Number_0 : SCode :=
 .seq (.ops [⟨some 28,none,.cmp .lss (.t 27) (.t 26)⟩])
 (.seq (.cond (.t 28) (.skip)
 (.seq (.keep [0,4,6]) (.exit 0)))
 (.seq (.block 1 (.seq (.ops [⟨some 29,none,.mov (.t 27)⟩,⟨some 7,none,.mov (.t 29)⟩])
 (.seq (.seq (.ops [⟨some 30,none,.mov (.t 5)⟩,⟨some 31,none,.mov (.t 7)⟩,⟨some 32,none,.ixs (.t 30) (.t 31)⟩,⟨some 33,none,.callr impl_isDigit [.t 32]⟩,⟨some 34,none,.not (.t 33)⟩])
 (.cond (.t 34) (.seq (.ops [⟨some 2,none,.mov (.c (.int .i64 0))⟩,⟨some 3,none,.mov (.c (.bool false))⟩])
 (.seq (.keep [2,3]) .ret))
 (.skip)))
 (.ops [⟨some 35,none,.mov (.t 4)⟩,⟨some 36,none,.ari .mul (.c (.int .i64 10)) (.t 35)⟩,⟨some 37,none,.mov (.t 5)⟩,⟨some 38,none,.mov (.t 7)⟩,⟨some 39,none,.ixs (.t 37) (.t 38)⟩,⟨some 40,none,.ari .sub (.t 39) (.c (.int .u8 48))⟩,⟨some 41,none,.conv .i64 (.t 40)⟩,⟨some 42,none,.ari .add (.t 36) (.t 41)⟩,⟨some 4,none,.mov (.t 42)⟩]))))
 (.ops [⟨some 43,none,.ari .add (.t 27) (.c (.int .i64 1))⟩,⟨some 27,none,.mov (.t 43)⟩])))
/-- loop.example/g00286/impl.Number -/
def c_impl_Number : SCode :=
 .seq (.ops [⟨some 2,none,.mov (.c (.int .i64 0))⟩,⟨some 3,none,.mov (.c (.bool false))⟩])
 (.seq (.ops [⟨some 8,none,.mov (.t 0)⟩,⟨some 4,none,.mov (.c (.int .i64 0))⟩,⟨some 5,none,.mov (.t 8)⟩,⟨some 6,none,.mov (.c (.int .i64 1))⟩])
 (.seq (.seq (.ops [⟨some 9,none,.mov (.t 0)⟩,⟨some 10,none,.cmp .neq (.t 9) (.c (.string ⟨#[]⟩))⟩,⟨some 11,none,.mov (.t 10)⟩,⟨some 12,(some (11,true)),.mov (.t 0)⟩,⟨some 13,(some (11,true)),.ixs (.t 12) (.c (.int .i64 0))⟩,⟨some 14,(some (11,true)),.cmp .eql (.t 13) (.c (.int .u8 45))⟩,⟨some 15,none,.pick (.t 11) (.t 14) (.c (.bool false))⟩])
 (.cond (.t 15) (.ops [⟨some 16,none,.mov (.t 0)⟩,⟨some 17,none,.cutS (.t 16) (some (.c (.int .i64 1))) none⟩,⟨some 5,none,.mov (.t 17)⟩,⟨some 6,none,.mov (.c (.int .i64 (-1)))⟩])
 (.skip)))
 (.seq (.seq (.ops [⟨some 18,none,.mov (.t 5)⟩,⟨some 19,none,.cmp .eql (.t 18) (.c (.string ⟨#[]⟩))⟩,⟨some 20,none,.mov (.t 19)⟩,⟨some 21,(some (20,false)),.mov (.t 5)⟩,⟨some 22,(some (20,false)),.slen (.t 21)⟩,⟨some 23,(some (20,false)),.cmp .gtr (.t 22) (.c (.int .i64 10))⟩,⟨some 24,none,.pick (.t 20) (.c (.bool true)) (.t 23)⟩])
 (.cond (.t 24) (.seq (.ops [⟨some 2,none,.mov (.c (.int .i64 0))⟩,⟨some 3,none,.mov (.c (.bool false))⟩])
 (.ret))
 (.skip)))
 (.seq (.seq (.ops [⟨some 25,none,.mov (.t 5)⟩,⟨some 26,none,.slen (.t 25)⟩,⟨some 27,none,.mov (.c (.int .i64 0))⟩])
 (.block 0 (.loop [0,4,5,6,26,27] b_impl_Number_0)))
 (.seq (.ops [⟨some 44,none,.mov (.t 4)⟩,⟨some 45,none,.mov (.t 6)⟩,⟨some 46,none,.ari .mul (.t 44) (.t 45)⟩,⟨some 4,none,.mov (.t 46)⟩])
 (.seq (.seq (.ops [⟨some 47,none,.mov (.t 4)⟩,⟨some 48,none,.callr impl_WordOk [.t 47]⟩,⟨some 49,none,.not (.t 48)⟩,⟨some 50,none,.mov (.t 49)⟩,⟨some 51,(some (50,false)),.mov (.t 4)⟩,⟨some 52,(some (50,false)),.callr impl_Digits [.t 51]⟩,⟨some 53,(some (50,false)),.mov (.t 0)⟩,⟨some 54,(some (50,false)),.cmp .neq (.t 52) (.t 53)⟩,⟨some 55,none,.pick (.t 50) (.c (.bool true)) (.t 54)⟩])
 (.cond (.t 55) (.seq (.ops [⟨some 2,none,.mov (.c (.int .i64 0))⟩,⟨some 3,none,.mov (.c (.bool false))⟩])
 (.ret))
 (.skip)))
 (.seq (.ops [⟨some 56,none,.mov (.t 4)⟩,⟨some 2,none,.mov (.t 56)⟩,⟨some 3,none,.mov (.c (.bool true))⟩])
 (.ret))))))))
def s_impl_Number : SFn := ⟨1, 57, c_impl_Number, [.t 2, .t 3]⟩
/-- strings.HasPrefix -/
def c_strings_HasPrefix : SCode :=
 .seq (.ops [⟨some 4,none,.mov (.c (.bool false))⟩])
 (.seq (.ops [⟨some 5,none,.mov (.t 0)⟩,⟨some 6,none,.mov (.t 1)⟩,⟨some 7,none,.callr stringslite_HasPrefix [.t 5,.t 6]⟩,⟨some 4,none,.mov (.t 7)⟩])
 (.ret))
def s_strings_HasPrefix : SFn := ⟨2, 8, c_strings_HasPrefix, [.t 4]⟩
/-- strings.IndexByte -/
def c_strings_IndexByte : SCode :=
 .seq (.ops [⟨some 4,none,.mov (.c (.int .i64 0))⟩])
 (.seq (.ops [⟨some 5,none,.mov (.t 0)⟩,⟨some 6,none,.mov (.t 1)⟩,⟨some 7,none,.callr stringslite_IndexByte [.t 5,.t 6]⟩,⟨some 4,none,.mov (.t 7)⟩])
 (.ret))
def s_strings_IndexByte : SFn := ⟨2, 8, c_strings_IndexByte, [.t 4]⟩
/-- (*loop.example/g00286/impl.parser).isName -/
def c_impl_parser_isName : SCode :=
 .seq (.ops [⟨some 2,none,.mov (.c (.bool false))⟩])
 (.seq (.ops [⟨some 3,none,.mov (.t 0)⟩,⟨some 4,none,.callb impl_parser_here [.t 3] [true]⟩,⟨some 5,none,.fld 0 none (.t 4)⟩,⟨some 6,none,.cmp .eql (.t 5) (.c (.int .i64 1))⟩,⟨some 7,none,.mov (.t 6)⟩,⟨some 8,(some (7,true)),.mov (.t 0)⟩,⟨some 9,(some (7,true)),.callb impl_parser_here [.t 8] [true]⟩,⟨some 10,(some (7,true)),.fld 1 none (.t 9)⟩,⟨some 11,(some (7,true)),.callr impl_Keyword [.t 10]⟩,⟨some 12,(some (7,true)),.not (.t 11)⟩,⟨some 13,none,.pick (.t 7) (.t 12) (.c (.bool false))⟩,⟨some 2,none,.mov (.t 13)⟩])
 (.ret))
def s_impl_parser_isName : SFn := ⟨1, 14, c_impl_parser_isName, [.t 2]⟩
/-- (*loop.example/g00286/impl.parser).statement -/
def c_impl_parser_statement : SCode :=
 .seq (.ops [⟨some 2,none,.alloc [.v (.int .i64 0),.v (.string ⟨#[]⟩),.v (.int .i64 0),.s 4 []]⟩])
 (.seq (.block 0 (.seq (.ops [⟨some 6,none,.mov (.t 0)⟩,⟨some 7,none,.callb impl_parser_take [.t 6,.c (.string ⟨#[105,102]⟩)] [true,false]⟩,⟨some 5,none,.mov (.t 7)⟩])
 (.cond (.t 5) (.seq (.ops [⟨some 8,none,.mov (.t 0)⟩,⟨some 9,none,.callb impl_parser_branch [.t 8] [true]⟩,⟨none,none,.store 4 (.t 2) (.t 9)⟩])
 (.ret))
 (.seq (.ops [⟨some 11,none,.mov (.t 0)⟩,⟨some 12,none,.callb impl_parser_take [.t 11,.c (.string ⟨#[119,104,105,108,101]⟩)] [true,false]⟩,⟨some 10,none,.mov (.t 12)⟩])
 (.cond (.t 10) (.seq (.ops [⟨some 13,none,.mov (.t 0)⟩,⟨some 14,none,.callb impl_parser_expr [.t 13] [true]⟩,⟨some 3,none,.alloc [.v (.int .i64 0),.v (.string ⟨#[]⟩),.v (.int .i64 0),.s 4 []]⟩,⟨none,none,.store 4 (.t 3) (.t 14)⟩])
 (.seq (.ops [⟨some 15,none,.mov (.t 0)⟩,⟨some 16,none,.callb impl_parser_block [.t 15] [true]⟩,⟨some 4,none,.alloc [.v (.int .i64 0),.v (.string ⟨#[]⟩),.v (.int .i64 0),.s 4 []]⟩,⟨none,none,.store 4 (.t 4) (.t 16)⟩])
 (.seq (.ops [⟨some 17,none,.load (some 4) (.t 3)⟩,⟨some 18,none,.load (some 4) (.t 4)⟩,⟨some 19,none,.lit 4 [.t 17,.t 18]⟩,⟨some 20,none,.build [.v (.int .i64 0),.v (.string ⟨#[]⟩),.v (.int .i64 0),.s 4 []] [(0,1,.c (.int .i64 5)),(3,1,.t 19)]⟩,⟨none,none,.store 4 (.t 2) (.t 20)⟩])
 (.ret))))
 (.seq (.ops [⟨some 22,none,.mov (.t 0)⟩,⟨some 23,none,.callb impl_parser_take [.t 22,.c (.string ⟨#[115,101,108,101,99,116]⟩)] [true,false]⟩,⟨some 21,none,.mov (.t 23)⟩])
 (.cond (.t 21) (.seq (.ops [⟨some 24,none,.mov (.t 0)⟩,⟨some 25,none,.callb impl_parser_choice [.t 24] [true]⟩,⟨none,none,.store 4 (.t 2) (.t 25)⟩])
 (.ret))
 (.skip))))))))
 (.seq (.ops [⟨some 26,none,.mov (.t 0)⟩,⟨some 27,none,.callb impl_parser_plain [.t 26] [true]⟩,⟨none,none,.store 4 (.t 2) (.t 27)⟩])
 (.ret)))
def s_impl_parser_statement : SFn := ⟨1, 28, c_impl_parser_statement, [.c 2 (some 4)]⟩
/-- loop.example/g00286/laws.eqParam -/
def c_laws_eqParam : SCode :=
 .seq (.ops [⟨some 2,none,.vbox 2 (.t 0)⟩,⟨some 3,none,.vbox 2 (.t 1)⟩,⟨some 4,none,.mov (.c (.bool false))⟩])
 (.seq (.seq (.ops [⟨some 5,none,.faddr 0 (.t 2)⟩,⟨some 6,none,.load none (.t 5)⟩,⟨some 7,none,.faddr 0 (.t 3)⟩,⟨some 8,none,.load none (.t 7)⟩,⟨some 9,none,.cmp .neq (.t 6) (.t 8)⟩])
 (.cond (.t 9) (.seq (.ops [⟨some 4,none,.mov (.c (.bool false))⟩])
 (.ret))
 (.skip)))
 (.seq (.seq (.ops [⟨some 10,none,.faddr 1 (.t 2)⟩,⟨some 11,none,.load none (.t 10)⟩,⟨some 12,none,.faddr 1 (.t 3)⟩,⟨some 13,none,.load none (.t 12)⟩,⟨some 14,none,.cmpb .neq (.t 11) (.t 13)⟩])
 (.cond (.t 14) (.seq (.ops [⟨some 4,none,.mov (.c (.bool false))⟩])
 (.ret))
 (.skip)))
 (.seq (.ops [⟨some 4,none,.mov (.c (.bool true))⟩])
 (.ret))))
def s_laws_eqParam : SFn := ⟨2, 15, c_laws_eqParam, [.t 4]⟩
def b_laws_eqNodeS_0 : SCode :=
 .seq (.seq (.ops [⟨some 11,none,.mov (.t 5)⟩,⟨some 12,none,.mov (.t 0)⟩,⟨some 13,none,.len (.t 12)⟩,⟨some 14,none,.cmp .lss (.t 11) (.t 13)⟩])
 (.cond (.t 14) (.skip)
 (.seq (.keep []) (.exit 0))))
 (.seq (.block 1 (.seq (.ops [⟨some 17,none,.mov (.t 0)⟩,⟨some 18,none,.mov (.t 5)⟩,⟨some 19,none,.ixa 4 (.t 17) (.t 18)⟩,⟨some 20,none,.load (some 4) (.t 19)⟩,⟨some 21,none,.mov (.t 1)⟩,⟨some 22,none,.mov (.t 5)⟩,⟨some 23,none,.ixa 4 (.t 21) (.t 22)⟩,⟨some 24,none,.load (some 4) (.t 23)⟩,⟨some 25,none,.callr laws_eqNode [.t 20,.t 24]⟩,⟨some 26,none,.not (.t 25)⟩])
 (.cond (.t 26) (.seq (.ops [⟨some 4,none,.mov (.c (.bool false))⟩])
 (.seq (.keep [4]) .ret))
 (.skip))))
 (.ops [⟨some 15,none,.mov (.t 5)⟩,⟨some 16,none,.ari .add (.t 15) (.c (.int .i64 1))⟩,⟨some 5,none,.mov (.t 16)⟩]))
/-- loop.example/g00286/laws.eqNodeS -/
def c_laws_eqNodeS : SCode :=
 .seq (.ops [⟨some 4,none,.mov (.c (.bool false))⟩])
 (.seq (.seq (.ops [⟨some 6,none,.mov (.t 0)⟩,⟨some 7,none,.len (.t 6)⟩,⟨some 8,none,.mov (.t 1)⟩,⟨some 9,none,.len (.t 8)⟩,⟨some 10,none,.cmp .neq (.t 7) (.t 9)⟩])
 (.cond (.t 10) (.seq (.ops [⟨some 4,none,.mov (.c (.bool false))⟩])
 (.ret))
 (.skip)))
 (.seq (.seq (.ops [⟨some 5,none,.mov (.c (.int .i64 0))⟩])
 (.block 0 (.loop [0,1,5] b_laws_eqNodeS_0)))
 (.seq (.ops [⟨some 4,none,.mov (.c (.bool true))⟩])
 (.ret))))
def s_laws_eqNodeS : SFn := ⟨2, 27, c_laws_eqNodeS, [.t 4]⟩
/-- loop.example/g00286/spec.l6If -/
def c_spec_l6If : SCode :=
 .seq (.ops [⟨some 4,none,.alloc [.v (.int .i64 0),.v (.string ⟨#[]⟩),.v (.int .i64 0),.s 4 []]⟩])
 (.seq (.ops [⟨some 8,none,.mov (.t 0)⟩,⟨some 9,none,.callb spec_l6Next [.t 8] [true]⟩])
 (.seq (.ops [⟨some 10,none,.mov (.t 0)⟩,⟨some 11,none,.callb spec_l6Expr [.t 10] [true]⟩,⟨some 5,none,.alloc [.v (.int .i64 0),.v (.string ⟨#[]⟩),.v (.int .i64 0),.s 4 []]⟩,⟨none,none,.store 4 (.t 5) (.t 11)⟩])
 (.seq (.ops [⟨some 12,none,.mov (.t 0)⟩,⟨some 13,none,.callb spec_l6Block [.t 12] [true]⟩,⟨some 6,none,.alloc [.v (.int .i64 0),.v (.string ⟨#[]⟩),.v (.int .i64 0),.s 4 []]⟩,⟨none,none,.store 4 (.t 6) (.t 13)⟩])
 (.seq (.ops [⟨some 14,none,.mov (.t 1)⟩,⟨some 15,none,.load (some 4) (.t 5)⟩,⟨some 16,none,.load (some 4) (.t 6)⟩,⟨some 17,none,.lit 4 [.t 15,.t 16]⟩,⟨some 18,none,.callb spec_l6Node [.t 14,.t 17] [false,true]⟩,⟨some 7,none,.alloc [.v (.int .i64 0),.v (.string ⟨#[]⟩),.v (.int .i64 0),.s 4 []]⟩,⟨none,none,.store 4 (.t 7) (.t 18)⟩])
 (.seq (.seq (.ops [⟨some 19,none,.mov (.t 1)⟩,⟨some 20,none,.cmp .eql (.t 19) (.c (.int .i64 4))⟩,⟨some 21,none,.mov (.t 20)⟩,⟨some 22,(some (21,true)),.mov (.t 0)⟩,⟨some 23,(some (21,true)),.callb spec_l6Is [.t 22,.c (.string ⟨#[101,108,115,101]⟩)] [true,false]⟩,⟨some 24,none,.pick (.t 21) (.t 23) (.c (.bool false))⟩])
 (.cond (.t 24) (.seq (.ops [⟨some 25,none,.mov (.t 0)⟩,⟨some 26,none,.callb spec_l6Next [.t 25] [true]⟩])
 (.opsd [⟨⟨some 27,none,.faddr 3 (.t 7)⟩,0,[]⟩,⟨⟨some 28,none,.load none (.t 27)⟩,1,[]⟩,⟨⟨some 29,none,.mov (.t 0)⟩,2,[]⟩,⟨⟨some 30,none,.callb spec_l6Block [.t 29] [true]⟩,3,[⟨some 27,none,.faddr 3 (.t 7)⟩,⟨some 28,none,.load none (.t 27)⟩]⟩,⟨⟨some 31,none,.lit 4 [.t 30]⟩,4,[⟨some 27,none,.faddr 3 (.t 7)⟩,⟨some 28,none,.load none (.t 27)⟩]⟩,⟨⟨some 32,none,.app 4 56 (.t 28) (.t 31)⟩,5,[]⟩,⟨⟨some 33,none,.faddr 3 (.t 7)⟩,6,[]⟩,⟨⟨none,none,.store 1 (.t 33) (.t 32)⟩,7,[]⟩]))
 (.skip)))
 (.seq (.ops [⟨some 34,none,.load (some 4) (.t 7)⟩,⟨none,none,.store 4 (.t 4) (.t 34)⟩])
 (.ret)))))))
def s_spec_l6If : SFn := ⟨2, 35, c_spec_l6If, [.c 4 (some 4)]⟩
def b_spec_l6Select_0 : SCode :=
 .seq (.seq (.ops [⟨some 9,none,.mov (.t 0)⟩,⟨some 10,none,.nck (.t 9)⟩,⟨some 11,none,.faddr 2 (.t 10)⟩,⟨some 12,none,.load none (.t 11)⟩,⟨some 13,none,.cmp .lss (.t 12) (.c (.int .i64 0))⟩,⟨some 14,none,.mov (.t 13)⟩,⟨some 15,(some (14,true)),.mov (.t 0)⟩,⟨some 16,(some (14,true)),.callb spec_l6Sign [.t 15,.c (.string ⟨#[125]⟩)] [true,false]⟩,⟨some 17,(some (14,true)),.not (.t 16)⟩,⟨some 18,none,.pick (.t 14) (.t 17) (.c (.bool false))⟩])
 (.cond (.t 18) (.skip)
 (.seq (.keep [0,2,3]) (.exit 0))))
 (.block 1 (.seq (.seq (.ops [⟨some 19,none,.faddr 3 (.t 3)⟩,⟨some 20,none,.load none (.t 19)⟩,⟨some 21,none,.len (.t 20)⟩,⟨some 22,none,.cmp .gtr (.t 21) (.c (.int .i64 0))⟩,⟨some 23,none,.mov (.t 22)⟩,⟨some 24,(some (23,true)),.faddr 3 (.t 3)⟩,⟨some 25,(some (23,true)),.load none (.t 24)⟩,⟨some 26,(some (23,true)),.faddr 3 (.t 3)⟩,⟨some 27,(some (23,true)),.load none (.t 26)⟩,⟨some 28,(some (23,true)),.len (.t 27)⟩,⟨some 29,(some (23,true)),.ari .sub (.t 28) (.c (.int .i64 1))⟩,⟨some 30,(some (23,true)),.ixa 4 (.t 25) (.t 29)⟩,⟨some 31,(some (23,true)),.faddr 0 (.t 30)⟩,⟨some 32,(some (23,true)),.load none (.t 31)⟩,⟨some 33,(some (23,true)),.cmp .eql (.t 32) (.c (.int .i64 34))⟩,⟨some 34,none,.pick (.t 23) (.t 33) (.c (.bool false))⟩])
 (.cond (.t 34) (.ops [⟨some 35,none,.mov (.t 0)⟩,⟨some 36,none,.callb spec_l6Bad [.t 35] [true]⟩])
 (.skip)))
 (.opsd [⟨⟨some 37,none,.faddr 3 (.t 3)⟩,0,[]⟩,⟨⟨some 38,none,.load none (.t 37)⟩,1,[]⟩,⟨⟨some 39,none,.mov (.t 0)⟩,2,[]⟩,⟨⟨some 40,none,.callb spec_l6Case [.t 39] [true]⟩,3,[⟨some 37,none,.faddr 3 (.t 3)⟩,⟨some 38,none,.load none (.t 37)⟩]⟩,⟨⟨some 41,none,.lit 4 [.t 40]⟩,4,[⟨some 37,none,.faddr 3 (.t 3)⟩,⟨some 38,none,.load none (.t 37)⟩]⟩,⟨⟨some 42,none,.app 4 56 (.t 38) (.t 41)⟩,5,[]⟩,⟨⟨some 43,none,.faddr 3 (.t 3)⟩,6,[]⟩,⟨⟨none,none,.store 1 (.t 43) (.t 42)⟩,7,[]⟩])))
/-- loop.example/g00286/spec.l6Select -/
def c_spec_l6Select : SCode :=
 .seq (.ops [⟨some 2,none,.alloc [.v (.int .i64 0),.v (.string ⟨#[]⟩),.v (.int .i64 0),.s 4 []]⟩])
 (.seq (.ops [⟨some 4,none,.mov (.t 0)⟩,⟨some 5,none,.callb spec_l6Next [.t 4] [true]⟩])
 (.seq (.ops [⟨some 6,none,.mov (.t 0)⟩,⟨some 7,none,.callb spec_l6Take [.t 6,.c (.string ⟨#[123]⟩)] [true,false]⟩])
 (.seq (.ops [⟨some 8,none,.build [.v (.int .i64 0),.v (.string ⟨#[]⟩),.v (.int .i64 0),.s 4 []] [(0,1,.c (.int .i64 12))]⟩,⟨some 3,none,.alloc [.v (.int .i64 0),.v (.string ⟨#[]⟩),.v (.int .i64 0),.s 4 []]⟩,⟨none,none,.store 4 (.t 3) (.t 8)⟩])
 (.seq (.block 0 (.loop [0,2,3] b_spec_l6Select_0))
 (.seq (.ops [⟨some 44,none,.mov (.t 0)⟩,⟨some 45,none,.callb spec_l6Take [.t 44,.c (.string ⟨#[125]⟩)] [true,false]⟩])
 (.seq (.ops [⟨some 46,none,.load (some 4) (.t 3)⟩,⟨none,none,.store 4 (.t 2) (.t 46)⟩])
 (.ret)))))))
def s_spec_l6Select : SFn := ⟨1, 47, c_spec_l6Select, [.c 2 (some 4)]⟩
def b_spec_l6Begins_0 : SCode :=
 .seq (.seq (.ops [⟨some 6,none,.mov (.t 4)⟩,⟨some 7,none,.mov (.t 3)⟩,⟨some 8,none,.len (.t 7)⟩,⟨some 9,none,.cmp .lss (.t 6) (.t 8)⟩])
 (.cond (.t 9) (.skip)
 (.seq (.keep []) (.exit 0))))
 (.seq (.block 1 (.seq (.ops [⟨some 12,none,.mov (.t 0)⟩,⟨some 13,none,.mov (.t 3)⟩,⟨some 14,none,.mov (.t 4)⟩,⟨some 15,none,.ixa 1 (.t 13) (.t 14)⟩,⟨some 16,none,.load none (.t 15)⟩,⟨some 17,none,.callb spec_l6Is [.t 12,.t 16] [true,false]⟩])
 (.cond (.t 17) (.seq (.ops [⟨some 2,none,.mov (.c (.bool true))⟩])
 (.seq (.keep [2]) .ret))
 (.skip))))
 (.ops [⟨some 10,none,.mov (.t 4)⟩,⟨some 11,none,.ari .add (.t 10) (.c (.int .i64 1))⟩,⟨some 4,none,.mov (.t 11)⟩]))
/-- loop.example/g00286/spec.l6Begins -/
def c_spec_l6Begins : SCode :=
 .seq (.ops [⟨some 2,none,.mov (.c (.bool false))⟩])
 (.seq (.ops [⟨some 5,none,.lit 1 [.c (.string ⟨#[108,101,116]⟩),.c (.string ⟨#[103,111]⟩),.c (.string ⟨#[114,101,99,118]⟩),.c (.string ⟨#[115,101,110,100]⟩),.c (.string ⟨#[112,111,107,101]⟩),.c (.string ⟨#[110,111,116,101]⟩),.c (.string ⟨#[115,119,97,112]⟩),.c (.string ⟨#[112,114,105,110,116]⟩),.c (.string ⟨#[114,101,116,117,114,110]⟩),.c (.string ⟨#[99,108,111,115,101]⟩),.c (.string ⟨#[104,97,108,116]⟩),.c (.string ⟨#[111,117,116]⟩)]⟩,⟨some 3,none,.mov (.t 5)⟩])
 (.seq (.seq (.ops [⟨some 4,none,.mov (.c (.int .i64 0))⟩])
 (.block 0 (.loop [0,3,4] b_spec_l6Begins_0)))
 (.seq (.ops [⟨some 2,none,.mov (.c (.bool false))⟩])
 (.ret))))
def s_spec_l6Begins : SFn := ⟨1, 18, c_spec_l6Begins, [.t 2]⟩
def b_spec_l6Simple_0 : SCode :=
 .seq (.seq (.ops [⟨some 61,none,.mov (.t 10)⟩,⟨some 62,none,.mov (.t 8)⟩,⟨some 63,none,.len (.t 62)⟩,⟨some 64,none,.cmp .lss (.t 61) (.t 63)⟩])
 (.cond (.t 64) (.skip)
 (.seq (.keep [2,9]) (.exit 1))))
 (.seq (.block 2 (.seq (.ops [⟨some 67,none,.mov (.t 8)⟩,⟨some 68,none,.mov (.t 10)⟩,⟨some 69,none,.ixa 1 (.t 67) (.t 68)⟩,⟨some 70,none,.load none (.t 69)⟩,⟨some 71,none,.mov (.t 3)⟩,⟨some 72,none,.cmp .eql (.t 70) (.t 71)⟩])
 (.cond (.t 72) (.seq (.opsd [⟨⟨some 73,none,.mov (.t 7)⟩,0,[]⟩,⟨⟨some 74,none,.mov (.t 10)⟩,1,[]⟩,⟨⟨some 75,none,.ixa 1 (.t 73) (.t 74)⟩,2,[]⟩,⟨⟨some 76,none,.load none (.t 75)⟩,3,[]⟩,⟨⟨some 77,none,.load (some 4) (.t 9)⟩,4,[]⟩,⟨⟨some 78,none,.lit 4 [.t 77]⟩,5,[⟨some 73,none,.mov (.t 7)⟩,⟨some 74,none,.mov (.t 10)⟩,⟨some 75,none,.ixa 1 (.t 73) (.t 74)⟩,⟨some 76,none,.load none (.t 75)⟩]⟩,⟨⟨some 79,none,.callb spec_l6Node [.t 76,.t 78] [false,true]⟩,6,[]⟩,⟨⟨none,none,.store 4 (.t 2) (.t 79)⟩,7,[]⟩])
 (.seq (.keep [2]) .ret))
 (.skip))))
 (.ops [⟨some 65,none,.mov (.t 10)⟩,⟨some 66,none,.ari .add (.t 65) (.c (.int .i64 1))⟩,⟨some 10,none,.mov (.t 66)⟩]))
/-- loop.example/g00286/spec.l6Simple -/
def c_spec_l6Simple : SCode :=
 .seq (.ops [⟨some 2,none,.alloc [.v (.int .i64 0),.v (.string ⟨#[]⟩),.v (.int .i64 0),.s 4 []]⟩])
 (.seq (.ops [⟨some 11,none,.mov (.t 0)⟩,⟨some 12,none,.callb spec_l6Now [.t 11] [true]⟩,⟨some 13,none,.fld 1 none (.t 12)⟩,⟨some 3,none,.mov (.t 13)⟩])
 (.seq (.ops [⟨some 14,none,.mov (.t 0)⟩,⟨some 15,none,.callb spec_l6Next [.t 14] [true]⟩])
 (.seq (.seq (.ops [⟨some 16,none,.mov (.t 3)⟩])
 (.block 0 (.seq (.ops [⟨some 18,none,.cmp .eql (.t 16) (.c (.string ⟨#[108,101,116]⟩))⟩,⟨some 17,none,.mov (.t 18)⟩])
 (.cond (.t 17) (.seq (.ops [⟨some 19,none,.mov (.t 0)⟩,⟨some 20,none,.callb spec_l6Name [.t 19] [true]⟩,⟨some 4,none,.mov (.t 20)⟩])
 (.seq (.ops [⟨some 21,none,.mov (.t 0)⟩,⟨some 22,none,.callb spec_l6Take [.t 21,.c (.string ⟨#[61]⟩)] [true,false]⟩])
 (.seq (.ops [⟨some 23,none,.mov (.t 0)⟩,⟨some 24,none,.callb spec_l6Expr [.t 23] [true]⟩,⟨some 5,none,.alloc [.v (.int .i64 0),.v (.string ⟨#[]⟩),.v (.int .i64 0),.s 4 []]⟩,⟨none,none,.store 4 (.t 5) (.t 24)⟩])
 (.seq (.ops [⟨some 25,none,.mov (.t 4)⟩,⟨some 26,none,.load (some 4) (.t 5)⟩,⟨some 27,none,.lit 4 [.t 26]⟩,⟨some 28,none,.build [.v (.int .i64 0),.v (.string ⟨#[]⟩),.v (.int .i64 0),.s 4 []] [(0,1,.c (.int .i64 2)),(1,1,.t 25),(3,1,.t 27)]⟩,⟨none,none,.store 4 (.t 2) (.t 28)⟩])
 (.ret)))))
 (.seq (.ops [⟨some 30,none,.cmp .eql (.t 16) (.c (.string ⟨#[103,111]⟩))⟩,⟨some 29,none,.mov (.t 30)⟩])
 (.cond (.t 29) (.seq (.ops [⟨some 31,none,.mov (.t 0)⟩,⟨some 32,none,.callb spec_l6Name [.t 31] [true]⟩,⟨some 6,none,.mov (.t 32)⟩])
 (.seq (.ops [⟨some 33,none,.mov (.t 6)⟩,⟨some 34,none,.mov (.t 0)⟩,⟨some 35,none,.callb spec_l6List [.t 34] [true]⟩,⟨some 36,none,.build [.v (.int .i64 0),.v (.string ⟨#[]⟩),.v (.int .i64 0),.s 4 []] [(0,1,.c (.int .i64 8)),(1,1,.t 33),(3,1,.t 35)]⟩,⟨none,none,.store 4 (.t 2) (.t 36)⟩])
 (.ret)))
 (.seq (.ops [⟨some 38,none,.cmp .eql (.t 16) (.c (.string ⟨#[114,101,99,118]⟩))⟩,⟨some 37,none,.mov (.t 38)⟩])
 (.cond (.t 37) (.seq (.ops [⟨some 39,none,.mov (.t 0)⟩,⟨some 40,none,.callb spec_l6Recv [.t 39,.c (.int .i64 10)] [true,false]⟩,⟨none,none,.store 4 (.t 2) (.t 40)⟩])
 (.ret))
 (.seq (.ops [⟨some 42,none,.cmp .eql (.t 16) (.c (.string ⟨#[115,101,110,100]⟩))⟩,⟨some 41,none,.mov (.t 42)⟩])
 (.cond (.t 41) (.seq (.ops [⟨some 43,none,.mov (.t 0)⟩,⟨some 44,none,.callb spec_l6Two [.t 43,.c (.int .i64 9)] [true,false]⟩,⟨none,none,.store 4 (.t 2) (.t 44)⟩])
 (.ret))
 (.seq (.ops [⟨some 46,none,.cmp .eql (.t 16) (.c (.string ⟨#[112,111,107,101]⟩))⟩,⟨some 45,none,.mov (.t 46)⟩])
 (.cond (.t 45) (.seq (.ops [⟨some 47,none,.mov (.t 0)⟩,⟨some 48,none,.callb spec_l6Two [.t 47,.c (.int .i64 13)] [true,false]⟩,⟨none,none,.store 4 (.t 2) (.t 48)⟩])
 (.ret))
 (.seq (.ops [⟨some 50,none,.cmp .eql (.t 16) (.c (.string ⟨#[110,111,116,101]⟩))⟩,⟨some 49,none,.mov (.t 50)⟩])
 (.cond (.t 49) (.seq (.ops [⟨some 51,none,.mov (.t 0)⟩,⟨some 52,none,.callb spec_l6Two [.t 51,.c (.int .i64 14)] [true,false]⟩,⟨none,none,.store 4 (.t 2) (.t 52)⟩])
 (.ret))
 (.seq (.ops [⟨some 54,none,.cmp .eql (.t 16) (.c (.string ⟨#[115,119,97,112]⟩))⟩,⟨some 53,none,.mov (.t 54)⟩])
 (.cond (.t 53) (.seq (.ops [⟨some 55,none,.mov (.t 0)⟩,⟨some 56,none,.callb spec_l6Two [.t 55,.c (.int .i64 15)] [true,false]⟩,⟨none,none,.store 4 (.t 2) (.t 56)⟩])
 (.ret))
 (.skip)))))))))))))))))
 (.seq (.ops [⟨some 57,none,.lit 1 [.c (.int .i64 6),.c (.int .i64 7),.c (.int .i64 11),.c (.int .i64 16),.c (.int .i64 17)]⟩,⟨some 7,none,.mov (.t 57)⟩])
 (.seq (.ops [⟨some 58,none,.lit 1 [.c (.string ⟨#[112,114,105,110,116]⟩),.c (.string ⟨#[114,101,116,117,114,110]⟩),.c (.string ⟨#[99,108,111,115,101]⟩),.c (.string ⟨#[104,97,108,116]⟩),.c (.string ⟨#[111,117,116]⟩)]⟩,⟨some 8,none,.mov (.t 58)⟩])
 (.seq (.ops [⟨some 59,none,.mov (.t 0)⟩,⟨some 60,none,.callb spec_l6Expr [.t 59] [true]⟩,⟨some 9,none,.alloc [.v (.int .i64 0),.v (.string ⟨#[]⟩),.v (.int .i64 0),.s 4 []]⟩,⟨none,none,.store 4 (.t 9) (.t 60)⟩])
 (.seq (.seq (.ops [⟨some 10,none,.mov (.c (.int .i64 0))⟩])
 (.block 1 (.loop [2,3,7,8,9,10] b_spec_l6Simple_0)))
 (.seq (.ops [⟨some 80,none,.load (some 4) (.t 9)⟩,⟨none,none,.store 4 (.t 2) (.t 80)⟩])
 (.ret)))))))))
def s_spec_l6Simple : SFn := ⟨1, 81, c_spec_l6Simple, [.c 2 (some 4)]⟩
/-- loop.example/g00286/spec.l6Expr -/
def c_spec_l6Expr : SCode :=
 .seq (.ops [⟨some 2,none,.alloc [.v (.int .i64 0),.v (.string ⟨#[]⟩),.v (.int .i64 0),.s 4 []]⟩])
 (.seq (.ops [⟨some 6,none,.mov (.t 0)⟩,⟨some 7,none,.callb spec_l6Sum [.t 6] [true]⟩,⟨some 3,none,.alloc [.v (.int .i64 0),.v (.string ⟨#[]⟩),.v (.int .i64 0),.s 4 []]⟩,⟨none,none,.store 4 (.t 3) (.t 7)⟩])
 (.seq (.ops [⟨some 4,none,.mov (.c (.int .i64 0))⟩])
 (.seq (.block 0 (.seq (.ops [⟨some 9,none,.mov (.t 0)⟩,⟨some 10,none,.callb spec_l6Sign [.t 9,.c (.string ⟨#[60]⟩)] [true,false]⟩,⟨some 8,none,.mov (.t 10)⟩])
 (.cond (.t 8) (.ops [⟨some 4,none,.mov (.c (.int .i64 24))⟩])
 (.seq (.ops [⟨some 12,none,.mov (.t 0)⟩,⟨some 13,none,.callb spec_l6Sign [.t 12,.c (.string ⟨#[61,61]⟩)] [true,false]⟩,⟨some 11,none,.mov (.t 13)⟩])
 (.cond (.t 11) (.ops [⟨some 4,none,.mov (.c (.int .i64 25))⟩])
 (.skip))))))
 (.seq (.seq (.ops [⟨some 14,none,.mov (.t 4)⟩,⟨some 15,none,.cmp .eql (.t 14) (.c (.int .i64 0))⟩])
 (.cond (.t 15) (.seq (.ops [⟨some 16,none,.load (some 4) (.t 3)⟩,⟨none,none,.store 4 (.t 2) (.t 16)⟩])
 (.ret))
 (.skip)))
 (.seq (.ops [⟨some 17,none,.mov (.t 0)⟩,⟨some 18,none,.callb spec_l6Next [.t 17] [true]⟩])
 (.seq (.ops [⟨some 19,none,.mov (.t 0)⟩,⟨some 20,none,.callb spec_l6Sum [.t 19] [true]⟩,⟨some 5,none,.alloc [.v (.int .i64 0),.v (.string ⟨#[]⟩),.v (.int .i64 0),.s 4 []]⟩,⟨none,none,.store 4 (.t 5) (.t 20)⟩])
 (.seq (.ops [⟨some 21,none,.mov (.t 4)⟩,⟨some 22,none,.load (some 4) (.t 3)⟩,⟨some 23,none,.load (some 4) (.t 5)⟩,⟨some 24,none,.lit 4 [.t 22,.t 23]⟩,⟨some 25,none,.callb spec_l6Node [.t 21,.t 24] [false,true]⟩,⟨none,none,.store 4 (.t 2) (.t 25)⟩])
 (.ret))))))))
def s_spec_l6Expr : SFn := ⟨1, 26, c_spec_l6Expr, [.c 2 (some 4)]⟩
/-- loop.example/g00286/spec.l6Node -/
def c_spec_l6Node : SCode :=
 .seq (.ops [⟨some 4,none,.alloc [.v (.int .i64 0),.v (.string ⟨#[]⟩),.v (.int .i64 0),.s 4 []]⟩])
 (.seq (.ops [⟨some 5,none,.mov (.t 0)⟩,⟨some 6,none,.lit 4 []⟩,⟨some 7,none,.mov (.t 1)⟩,⟨some 8,none,.app 4 56 (.t 6) (.t 7)⟩,⟨some 9,none,.build [.v (.int .i64 0),.v (.string ⟨#[]⟩),.v (.int .i64 0),.s 4 []] [(0,1,.t 5),(3,1,.t 8)]⟩,⟨none,none,.store 4 (.t 4) (.t 9)⟩])
 (.ret))
def s_spec_l6Node : SFn := ⟨2, 10, c_spec_l6Node, [.c 4 (some 4)]⟩
/-- internal/stringslite.HasPrefix -/
def c_stringslite_HasPrefix : SCode :=
 .seq (.ops [⟨some 4,none,.mov (.c (.bool false))⟩])
 (.seq (.ops [⟨some 5,none,.mov (.t 0)⟩,⟨some 6,none,.slen (.t 5)⟩,⟨some 7,none,.mov (.t 1)⟩,⟨some 8,none,.slen (.t 7)⟩,⟨some 9,none,.cmp .geq (.t 6) (.t 8)⟩,⟨some 10,none,.mov (.t 9)⟩,⟨some 11,(some (10,true)),.mov (.t 0)⟩,⟨some 12,(some (10,true)),.mov (.t 1)⟩,⟨some 13,(some (10,true)),.slen (.t 12)⟩,⟨some 14,(some (10,true)),.cutS (.t 11) none (some (.t 13))⟩,⟨some 15,(some (10,true)),.mov (.t 1)⟩,⟨some 16,(some (10,true)),.cmp .eql (.t 14) (.t 15)⟩,⟨some 17,none,.pick (.t 10) (.t 16) (.c (.bool false))⟩,⟨some 4,none,.mov (.t 17)⟩])
 (.ret))
def s_stringslite_HasPrefix : SFn := ⟨2, 18, c_stringslite_HasPrefix, [.t 4]⟩
/-- internal/stringslite.IndexByte -/
def c_stringslite_IndexByte : SCode :=
 .seq (.ops [⟨some 4,none,.mov (.c (.int .i64 0))⟩])
 (.seq (.ops [⟨some 5,none,.mov (.t 0)⟩,⟨some 6,none,.mov (.t 1)⟩,⟨some 7,none,.idxb bytealg_IndexByteString (.t 5) (.t 6)⟩,⟨some 4,none,.mov (.t 7)⟩])
 (.ret))
def s_stringslite_IndexByte : SFn := ⟨2, 8, c_stringslite_IndexByte, [.t 4]⟩
/-- loop.example/g00286/impl.Keyword -/
def c_impl_Keyword : SCode :=
 .seq (.ops [⟨some 2,none,.mov (.c (.bool false))⟩])
 (.seq (.ops [⟨some 3,none,.lit 1 [.c (.string ⟨#[102,117,110,99]⟩),.c (.string ⟨#[108,101,116]⟩),.c (.string ⟨#[105,102]⟩),.c (.string ⟨#[101,108,115,101]⟩),.c (.string ⟨#[119,104,105,108,101]⟩),.c (.string ⟨#[112,114,105,110,116]⟩),.c (.string ⟨#[114,101,116,117,114,110]⟩),.c (.string ⟨#[103,111]⟩),.c (.string ⟨#[115,101,110,100]⟩),.c (.string ⟨#[114,101,99,118]⟩),.c (.string ⟨#[99,108,111,115,101]⟩),.c (.string ⟨#[115,101,108,101,99,116]⟩),.c (.string ⟨#[99,97,115,101]⟩),.c (.string ⟨#[100,101,102,97,117,108,116]⟩),.c (.string ⟨#[109,97,107,101]⟩),.c (.string ⟨#[99,104,97,110]⟩),.c (.string ⟨#[112,111,107,101]⟩),.c (.string ⟨#[110,111,116,101]⟩),.c (.string ⟨#[115,119,97,112]⟩),.c (.string ⟨#[104,97,108,116]⟩),.c (.string ⟨#[111,117,116]⟩),.c (.string ⟨#[112,101,101,107]⟩),.c (.string ⟨#[99,97,115]⟩),.c (.string ⟨#[99,111,114,101]⟩),.c (.string ⟨#[97,100,100,114]⟩)]⟩,⟨some 4,none,.mov (.t 0)⟩,⟨some 5,none,.callr slices_Contains_string_string [.t 3,.t 4]⟩,⟨some 2,none,.mov (.t 5)⟩])
 (.ret))
def s_impl_Keyword : SFn := ⟨1, 6, c_impl_Keyword, [.t 2]⟩
/-- (*loop.example/g00286/impl.parser).branch -/
def c_impl_parser_branch : SCode :=
 .seq (.ops [⟨some 2,none,.alloc [.v (.int .i64 0),.v (.string ⟨#[]⟩),.v (.int .i64 0),.s 4 []]⟩])
 (.seq (.ops [⟨some 7,none,.mov (.t 0)⟩,⟨some 8,none,.callb impl_parser_expr [.t 7] [true]⟩,⟨some 3,none,.alloc [.v (.int .i64 0),.v (.string ⟨#[]⟩),.v (.int .i64 0),.s 4 []]⟩,⟨none,none,.store 4 (.t 3) (.t 8)⟩])
 (.seq (.ops [⟨some 9,none,.mov (.t 0)⟩,⟨some 10,none,.callb impl_parser_block [.t 9] [true]⟩,⟨some 4,none,.alloc [.v (.int .i64 0),.v (.string ⟨#[]⟩),.v (.int .i64 0),.s 4 []]⟩,⟨none,none,.store 4 (.t 4) (.t 10)⟩])
 (.seq (.ops [⟨some 11,none,.load (some 4) (.t 3)⟩,⟨some 12,none,.load (some 4) (.t 4)⟩,⟨some 13,none,.lit 4 [.t 11,.t 12]⟩,⟨some 14,none,.build [.v (.int .i64 0),.v (.string ⟨#[]⟩),.v (.int .i64 0),.s 4 []] [(0,1,.c (.int .i64 4)),(3,1,.t 13)]⟩,⟨some 5,none,.alloc [.v (.int .i64 0),.v (.string ⟨#[]⟩),.v (.int .i64 0),.s 4 []]⟩,⟨none,none,.store 4 (.t 5) (.t 14)⟩])
 (.seq (.seq (.ops [⟨some 15,none,.mov (.t 0)⟩,⟨some 16,none,.callb impl_parser_take [.t 15,.c (.string ⟨#[101,108,115,101]⟩)] [true,false]⟩])
 (.cond (.t 16) (.seq (.ops [⟨some 17,none,.mov (.t 0)⟩,⟨some 18,none,.callb impl_parser_block [.t 17] [true]⟩,⟨some 6,none,.alloc [.v (.int .i64 0),.v (.string ⟨#[]⟩),.v (.int .i64 0),.s 4 []]⟩,⟨none,none,.store 4 (.t 6) (.t 18)⟩])
 (.ops [⟨some 19,none,.faddr 3 (.t 5)⟩,⟨some 20,none,.load none (.t 19)⟩,⟨some 21,none,.load (some 4) (.t 6)⟩,⟨some 22,none,.lit 4 [.t 21]⟩,⟨some 23,none,.app 4 56 (.t 20) (.t 22)⟩,⟨some 24,none,.faddr 3 (.t 5)⟩,⟨none,none,.store 1 (.t 24) (.t 23)⟩]))
 (.skip)))
 (.seq (.ops [⟨some 25,none,.load (some 4) (.t 5)⟩,⟨none,none,.store 4 (.t 2) (.t 25)⟩])
 (.ret))))))
def s_impl_parser_branch : SFn := ⟨1, 26, c_impl_parser_branch, [.c 2 (some 4)]⟩
/-- (*loop.example/g00286/impl.parser).expr -/
def c_impl_parser_expr : SCode :=
 .seq (.ops [⟨some 2,none,.alloc [.v (.int .i64 0),.v (.string ⟨#[]⟩),.v (.int .i64 0),.s 4 []]⟩])
 (.seq (.seq (.ops [⟨some 6,none,.mov (.t 0)⟩,⟨some 7,none,.nck (.t 6)⟩,⟨some 8,none,.faddr 2 (.t 7)⟩,⟨some 9,none,.load none (.t 8)⟩,⟨some 10,none,.cmp .geq (.t 9) (.c (.int .i64 0))⟩])
 (.cond (.t 10) (.seq (.ops [⟨some 11,none,.build [.v (.int .i64 0),.v (.string ⟨#[]⟩),.v (.int .i64 0),.s 4 []] []⟩,⟨none,none,.store 4 (.t 2) (.t 11)⟩])
 (.ret))
 (.skip)))
 (.seq (.ops [⟨some 12,none,.mov (.t 0)⟩,⟨some 13,none,.callb impl_parser_sum [.t 12] [true]⟩,⟨some 3,none,.alloc [.v (.int .i64 0),.v (.string ⟨#[]⟩),.v (.int .i64 0),.s 4 []]⟩,⟨none,none,.store 4 (.t 3) (.t 13)⟩])
 (.seq (.ops [⟨some 4,none,.mov (.c (.int .i64 24))⟩])
 (.seq (.seq (.ops [⟨some 14,none,.mov (.t 0)⟩,⟨some 15,none,.callb impl_parser_take [.t 14,.c (.string ⟨#[60]⟩)] [true,false]⟩,⟨some 16,none,.not (.t 15)⟩])
 (.cond (.t 16) (.seq (.ops [⟨some 4,none,.mov (.c (.int .i64 25))⟩])
 (.seq (.ops [⟨some 17,none,.mov (.t 0)⟩,⟨some 18,none,.callb impl_parser_take [.t 17,.c (.string ⟨#[61,61]⟩)] [true,false]⟩,⟨some 19,none,.not (.t 18)⟩])
 (.cond (.t 19) (.seq (.ops [⟨some 20,none,.load (some 4) (.t 3)⟩,⟨none,none,.store 4 (.t 2) (.t 20)⟩])
 (.ret))
 (.skip))))
 (.skip)))
 (.seq (.ops [⟨some 21,none,.mov (.t 0)⟩,⟨some 22,none,.callb impl_parser_sum [.t 21] [true]⟩,⟨some 5,none,.alloc [.v (.int .i64 0),.v (.string ⟨#[]⟩),.v (.int .i64 0),.s 4 []]⟩,⟨none,none,.store 4 (.t 5) (.t 22)⟩])
 (.seq (.ops [⟨some 23,none,.mov (.t 4)⟩,⟨some 24,none,.load (some 4) (.t 3)⟩,⟨some 25,none,.load (some 4) (.t 5)⟩,⟨some 26,none,.lit 4 [.t 24,.t 25]⟩,⟨some 27,none,.build [.v (.int .i64 0),.v (.string ⟨#[]⟩),.v (.int .i64 0),.s 4 []] [(0,1,.t 23),(3,1,.t 26)]⟩,⟨none,none,.store 4 (.t 2) (.t 27)⟩])
 (.ret)))))))
def s_impl_parser_expr : SFn := ⟨1, 28, c_impl_parser_expr, [.c 2 (some 4)]⟩
def b_impl_parser_choice_0 : SCode :=
 .seq (.seq (.ops [⟨some 10,none,.mov (.t 0)⟩,⟨some 11,none,.nck (.t 10)⟩,⟨some 12,none,.faddr 2 (.t 11)⟩,⟨some 13,none,.load none (.t 12)⟩,⟨some 14,none,.cmp .lss (.t 13) (.c (.int .i64 0))⟩,⟨some 15,none,.mov (.t 14)⟩,⟨some 16,(some (15,true)),.mov (.t 0)⟩,⟨some 17,(some (15,true)),.callb impl_parser_take [.t 16,.c (.string ⟨#[99,97,115,101]⟩)] [true,false]⟩,⟨some 18,none,.pick (.t 15) (.t 17) (.c (.bool false))⟩])
 (.cond (.t 18) (.skip)
 (.seq (.keep [0,2,3]) (.exit 0))))
 (.block 1 (.seq (.ops [⟨some 19,none,.build [.v (.int .i64 0),.v (.string ⟨#[]⟩),.v (.int .i64 0),.s 4 []] []⟩,⟨some 4,none,.alloc [.v (.int .i64 0),.v (.string ⟨#[]⟩),.v (.int .i64 0),.s 4 []]⟩,⟨none,none,.store 4 (.t 4) (.t 19)⟩])
 (.seq (.seq (.ops [⟨some 20,none,.mov (.t 0)⟩,⟨some 21,none,.callb impl_parser_take [.t 20,.c (.string ⟨#[114,101,99,118]⟩)] [true,false]⟩])
 (.cond (.t 21) (.ops [⟨some 22,none,.mov (.t 0)⟩,⟨some 23,none,.callb impl_parser_received [.t 22,.c (.int .i64 32)] [true,false]⟩,⟨none,none,.store 4 (.t 4) (.t 23)⟩])
 (.seq (.ops [⟨some 24,none,.mov (.t 0)⟩,⟨some 25,none,.callb impl_parser_need [.t 24,.c (.string ⟨#[115,101,110,100]⟩)] [true,false]⟩])
 (.ops [⟨some 26,none,.mov (.t 0)⟩,⟨some 27,none,.callb impl_parser_two [.t 26] [true]⟩,⟨some 28,none,.build [.v (.int .i64 0),.v (.string ⟨#[]⟩),.v (.int .i64 0),.s 4 []] [(0,1,.c (.int .i64 33)),(3,1,.t 27)]⟩,⟨none,none,.store 4 (.t 4) (.t 28)⟩]))))
 (.seq (.ops [⟨some 29,none,.mov (.t 0)⟩,⟨some 30,none,.callb impl_parser_block [.t 29] [true]⟩,⟨some 5,none,.alloc [.v (.int .i64 0),.v (.string ⟨#[]⟩),.v (.int .i64 0),.s 4 []]⟩,⟨none,none,.store 4 (.t 5) (.t 30)⟩])
 (.seq (.ops [⟨some 31,none,.faddr 3 (.t 4)⟩,⟨some 32,none,.load none (.t 31)⟩,⟨some 33,none,.load (some 4) (.t 5)⟩,⟨some 34,none,.lit 4 [.t 33]⟩,⟨some 35,none,.app 4 56 (.t 32) (.t 34)⟩,⟨some 36,none,.faddr 3 (.t 4)⟩,⟨none,none,.store 1 (.t 36) (.t 35)⟩])
 (.ops [⟨some 37,none,.faddr 3 (.t 3)⟩,⟨some 38,none,.load none (.t 37)⟩,⟨some 39,none,.load (some 4) (.t 4)⟩,⟨some 40,none,.lit 4 [.t 39]⟩,⟨some 41,none,.app 4 56 (.t 38) (.t 40)⟩,⟨some 42,none,.faddr 3 (.t 3)⟩,⟨none,none,.store 1 (.t 42) (.t 41)⟩]))))))
/-- (*loop.example/g00286/impl.parser).choice -/
def c_impl_parser_choice : SCode :=
 .seq (.ops [⟨some 2,none,.alloc [.v (.int .i64 0),.v (.string ⟨#[]⟩),.v (.int .i64 0),.s 4 []]⟩])
 (.seq (.ops [⟨some 7,none,.build [.v (.int .i64 0),.v (.string ⟨#[]⟩),.v (.int .i64 0),.s 4 []] [(0,1,.c (.int .i64 12))]⟩,⟨some 3,none,.alloc [.v (.int .i64 0),.v (.string ⟨#[]⟩),.v (.int .i64 0),.s 4 []]⟩,⟨none,none,.store 4 (.t 3) (.t 7)⟩])
 (.seq (.ops [⟨some 8,none,.mov (.t 0)⟩,⟨some 9,none,.callb impl_parser_need [.t 8,.c (.string ⟨#[123]⟩)] [true,false]⟩])
 (.seq (.block 0 (.loop [0,2,3] b_impl_parser_choice_0))
 (.seq (.seq (.ops [⟨some 43,none,.mov (.t 0)⟩,⟨some 44,none,.callb impl_parser_take [.t 43,.c (.string ⟨#[100,101,102,97,117,108,116]⟩)] [true,false]⟩])
 (.cond (.t 44) (.seq (.ops [⟨some 45,none,.mov (.t 0)⟩,⟨some 46,none,.callb impl_parser_block [.t 45] [true]⟩,⟨some 6,none,.alloc [.v (.int .i64 0),.v (.string ⟨#[]⟩),.v (.int .i64 0),.s 4 []]⟩,⟨none,none,.store 4 (.t 6) (.t 46)⟩])
 (.ops [⟨some 47,none,.faddr 3 (.t 3)⟩,⟨some 48,none,.load none (.t 47)⟩,⟨some 49,none,.load (some 4) (.t 6)⟩,⟨some 50,none,.lit 4 [.t 49]⟩,⟨some 51,none,.build [.v (.int .i64 0),.v (.string ⟨#[]⟩),.v (.int .i64 0),.s 4 []] [(0,1,.c (.int .i64 34)),(3,1,.t 50)]⟩,⟨some 52,none,.lit 4 [.t 51]⟩,⟨some 53,none,.app 4 56 (.t 48) (.t 52)⟩,⟨some 54,none,.faddr 3 (.t 3)⟩,⟨none,none,.store 1 (.t 54) (.t 53)⟩]))
 (.skip)))
 (.seq (.ops [⟨some 55,none,.mov (.t 0)⟩,⟨some 56,none,.callb impl_parser_need [.t 55,.c (.string ⟨#[125]⟩)] [true,false]⟩])
 (.seq (.ops [⟨some 57,none,.load (some 4) (.t 3)⟩,⟨none,none,.store 4 (.t 2) (.t 57)⟩])
 (.ret)))))))
def s_impl_parser_choice : SFn := ⟨1, 58, c_impl_parser_choice, [.c 2 (some 4)]⟩
/-- (*loop.example/g00286/impl.parser).plain -/
def c_impl_parser_plain : SCode :=
 .seq (.ops [⟨some 2,none,.alloc [.v (.int .i64 0),.v (.string ⟨#[]⟩),.v (.int .i64 0),.s 4 []]⟩])
 (.seq (.ops [⟨some 8,none,.build [.v (.int .i64 0),.v (.string ⟨#[]⟩),.v (.int .i64 0),.s 4 []] []⟩,⟨some 3,none,.alloc [.v (.int .i64 0),.v (.string ⟨#[]⟩),.v (.int .i64 0),.s 4 []]⟩,⟨none,none,.store 4 (.t 3) (.t 8)⟩])
 (.seq (.block 0 (.seq (.ops [⟨some 12,none,.mov (.t 0)⟩,⟨some 13,none,.callb impl_parser_take [.t 12,.c (.string ⟨#[108,101,116]⟩)] [true,false]⟩,⟨some 11,none,.mov (.t 13)⟩])
 (.cond (.t 11) (.seq (.ops [⟨some 14,none,.mov (.t 0)⟩,⟨some 15,none,.callb impl_parser_name [.t 14] [true]⟩,⟨some 4,none,.mov (.t 15)⟩])
 (.seq (.ops [⟨some 16,none,.mov (.t 0)⟩,⟨some 17,none,.callb impl_parser_need [.t 16,.c (.string ⟨#[61]⟩)] [true,false]⟩])
 (.ops [⟨some 18,none,.mov (.t 4)⟩,⟨some 19,none,.mov (.t 0)⟩,⟨some 20,none,.callb impl_parser_expr [.t 19] [true]⟩,⟨some 21,none,.lit 4 [.t 20]⟩,⟨some 22,none,.build [.v (.int .i64 0),.v (.string ⟨#[]⟩),.v (.int .i64 0),.s 4 []] [(0,1,.c (.int .i64 2)),(1,1,.t 18),(3,1,.t 21)]⟩,⟨none,none,.store 4 (.t 3) (.t 22)⟩])))
 (.seq (.ops [⟨some 24,none,.mov (.t 0)⟩,⟨some 25,none,.callb impl_parser_take [.t 24,.c (.string ⟨#[103,111]⟩)] [true,false]⟩,⟨some 23,none,.mov (.t 25)⟩])
 (.cond (.t 23) (.seq (.ops [⟨some 26,none,.mov (.t 0)⟩,⟨some 27,none,.callb impl_parser_name [.t 26] [true]⟩,⟨some 5,none,.mov (.t 27)⟩])
 (.seq (.ops [⟨some 29,none,.mov (.t 0)⟩,⟨some 30,none,.callb impl_parser_exprs [.t 29] [true]⟩,⟨some 28,none,.mov (.t 30)⟩,⟨some 31,none,.ext (.t 28) 0⟩,⟨some 32,none,.ext (.t 28) 1⟩,⟨some 6,none,.mov (.t 31)⟩,⟨some 7,none,.mov (.t 32)⟩])
 (.ops [⟨some 33,none,.mov (.t 5)⟩,⟨some 34,none,.mov (.t 6)⟩,⟨some 35,none,.build [.v (.int .i64 0),.v (.string ⟨#[]⟩),.v (.int .i64 0),.s 4 []] [(0,1,.c (.int .i64 8)),(1,1,.t 33),(3,1,.t 34)]⟩,⟨none,none,.store 4 (.t 3) (.t 35)⟩])))
 (.seq (.ops [⟨some 37,none,.mov (.t 0)⟩,⟨some 38,none,.callb impl_parser_take [.t 37,.c (.string ⟨#[114,101,99,118]⟩)] [true,false]⟩,⟨some 36,none,.mov (.t 38)⟩])
 (.cond (.t 36) (.ops [⟨some 39,none,.mov (.t 0)⟩,⟨some 40,none,.callb impl_parser_received [.t 39,.c (.int .i64 10)] [true,false]⟩,⟨none,none,.store 4 (.t 3) (.t 40)⟩])
 (.seq (.ops [⟨some 42,none,.mov (.t 0)⟩,⟨some 43,none,.callb impl_parser_take [.t 42,.c (.string ⟨#[115,101,110,100]⟩)] [true,false]⟩,⟨some 41,none,.mov (.t 43)⟩])
 (.cond (.t 41) (.ops [⟨some 44,none,.mov (.t 0)⟩,⟨some 45,none,.callb impl_parser_two [.t 44] [true]⟩,⟨some 46,none,.build [.v (.int .i64 0),.v (.string ⟨#[]⟩),.v (.int .i64 0),.s 4 []] [(0,1,.c (.int .i64 9)),(3,1,.t 45)]⟩,⟨none,none,.store 4 (.t 3) (.t 46)⟩])
 (.seq (.ops [⟨some 48,none,.mov (.t 0)⟩,⟨some 49,none,.callb impl_parser_take [.t 48,.c (.string ⟨#[112,111,107,101]⟩)] [true,false]⟩,⟨some 47,none,.mov (.t 49)⟩])
 (.cond (.t 47) (.ops [⟨some 50,none,.mov (.t 0)⟩,⟨some 51,none,.callb impl_parser_two [.t 50] [true]⟩,⟨some 52,none,.build [.v (.int .i64 0),.v (.string ⟨#[]⟩),.v (.int .i64 0),.s 4 []] [(0,1,.c (.int .i64 13)),(3,1,.t 51)]⟩,⟨none,none,.store 4 (.t 3) (.t 52)⟩])
 (.seq (.ops [⟨some 54,none,.mov (.t 0)⟩,⟨some 55,none,.callb impl_parser_take [.t 54,.c (.string ⟨#[110,111,116,101]⟩)] [true,false]⟩,⟨some 53,none,.mov (.t 55)⟩])
 (.cond (.t 53) (.ops [⟨some 56,none,.mov (.t 0)⟩,⟨some 57,none,.callb impl_parser_two [.t 56] [true]⟩,⟨some 58,none,.build [.v (.int .i64 0),.v (.string ⟨#[]⟩),.v (.int .i64 0),.s 4 []] [(0,1,.c (.int .i64 14)),(3,1,.t 57)]⟩,⟨none,none,.store 4 (.t 3) (.t 58)⟩])
 (.seq (.ops [⟨some 60,none,.mov (.t 0)⟩,⟨some 61,none,.callb impl_parser_take [.t 60,.c (.string ⟨#[115,119,97,112]⟩)] [true,false]⟩,⟨some 59,none,.mov (.t 61)⟩])
 (.cond (.t 59) (.ops [⟨some 62,none,.mov (.t 0)⟩,⟨some 63,none,.callb impl_parser_two [.t 62] [true]⟩,⟨some 64,none,.build [.v (.int .i64 0),.v (.string ⟨#[]⟩),.v (.int .i64 0),.s 4 []] [(0,1,.c (.int .i64 15)),(3,1,.t 63)]⟩,⟨none,none,.store 4 (.t 3) (.t 64)⟩])
 (.ops [⟨some 9,none,.mov (.t 0)⟩,⟨some 10,none,.callb impl_parser_oneExpr [.t 9] [true]⟩,⟨none,none,.store 4 (.t 3) (.t 10)⟩]))))))))))))))))
 (.seq (.ops [⟨some 65,none,.mov (.t 0)⟩,⟨some 66,none,.callb impl_parser_need [.t 65,.c (.string ⟨#[59]⟩)] [true,false]⟩])
 (.seq (.ops [⟨some 67,none,.load (some 4) (.t 3)⟩,⟨none,none,.store 4 (.t 2) (.t 67)⟩])
 (.ret)))))
def s_impl_parser_plain : SFn := ⟨1, 68, c_impl_parser_plain, [.c 2 (some 4)]⟩
/-- loop.example/g00286/spec.l6Case -/
def c_spec_l6Case : SCode :=
 .seq (.ops [⟨some 2,none,.alloc [.v (.int .i64 0),.v (.string ⟨#[]⟩),.v (.int .i64 0),.s 4 []]⟩])
 (.seq (.seq (.ops [⟨some 6,none,.mov (.t 0)⟩,⟨some 7,none,.callb spec_l6Is [.t 6,.c (.string ⟨#[100,101,102,97,117,108,116]⟩)] [true,false]⟩])
 (.cond (.t 7) (.seq (.ops [⟨some 8,none,.mov (.t 0)⟩,⟨some 9,none,.callb spec_l6Next [.t 8] [true]⟩])
 (.seq (.ops [⟨some 10,none,.mov (.t 0)⟩,⟨some 11,none,.callb spec_l6Block [.t 10] [true]⟩,⟨some 3,none,.alloc [.v (.int .i64 0),.v (.string ⟨#[]⟩),.v (.int .i64 0),.s 4 []]⟩,⟨none,none,.store 4 (.t 3) (.t 11)⟩])
 (.seq (.ops [⟨some 12,none,.load (some 4) (.t 3)⟩,⟨some 13,none,.lit 4 [.t 12]⟩,⟨some 14,none,.callb spec_l6Node [.c (.int .i64 34),.t 13] [false,true]⟩,⟨none,none,.store 4 (.t 2) (.t 14)⟩])
 (.ret))))
 (.skip)))
 (.seq (.ops [⟨some 15,none,.mov (.t 0)⟩,⟨some 16,none,.callb spec_l6Word [.t 15,.c (.string ⟨#[99,97,115,101]⟩)] [true,false]⟩])
 (.seq (.ops [⟨some 17,none,.build [.v (.int .i64 0),.v (.string ⟨#[]⟩),.v (.int .i64 0),.s 4 []] []⟩,⟨some 4,none,.alloc [.v (.int .i64 0),.v (.string ⟨#[]⟩),.v (.int .i64 0),.s 4 []]⟩,⟨none,none,.store 4 (.t 4) (.t 17)⟩])
 (.seq (.seq (.ops [⟨some 18,none,.mov (.t 0)⟩,⟨some 19,none,.callb spec_l6Is [.t 18,.c (.string ⟨#[114,101,99,118]⟩)] [true,false]⟩])
 (.cond (.t 19) (.seq (.ops [⟨some 20,none,.mov (.t 0)⟩,⟨some 21,none,.callb spec_l6Next [.t 20] [true]⟩])
 (.ops [⟨some 22,none,.mov (.t 0)⟩,⟨some 23,none,.callb spec_l6Recv [.t 22,.c (.int .i64 32)] [true,false]⟩,⟨none,none,.store 4 (.t 4) (.t 23)⟩]))
 (.seq (.ops [⟨some 24,none,.mov (.t 0)⟩,⟨some 25,none,.callb spec_l6Word [.t 24,.c (.string ⟨#[115,101,110,100]⟩)] [true,false]⟩])
 (.ops [⟨some 26,none,.mov (.t 0)⟩,⟨some 27,none,.callb spec_l6Two [.t 26,.c (.int .i64 33)] [true,false]⟩,⟨none,none,.store 4 (.t 4) (.t 27)⟩]))))
 (.seq (.ops [⟨some 28,none,.mov (.t 0)⟩,⟨some 29,none,.callb spec_l6Block [.t 28] [true]⟩,⟨some 5,none,.alloc [.v (.int .i64 0),.v (.string ⟨#[]⟩),.v (.int .i64 0),.s 4 []]⟩,⟨none,none,.store 4 (.t 5) (.t 29)⟩])
 (.seq (.ops [⟨some 30,none,.faddr 3 (.t 4)⟩,⟨some 31,none,.load none (.t 30)⟩,⟨some 32,none,.load (some 4) (.t 5)⟩,⟨some 33,none,.lit 4 [.t 32]⟩,⟨some 34,none,.app 4 56 (.t 31) (.t 33)⟩,⟨some 35,none,.faddr 3 (.t 4)⟩,⟨none,none,.store 1 (.t 35) (.t 34)⟩])
 (.seq (.ops [⟨some 36,none,.load (some 4) (.t 4)⟩,⟨none,none,.store 4 (.t 2) (.t 36)⟩])
 (.ret))))))))
def s_spec_l6Case : SFn := ⟨1, 37, c_spec_l6Case, [.c 2 (some 4)]⟩
def b_spec_l6List_0 : SCode :=
 .seq (.seq (.ops [⟨some 7,none,.mov (.t 0)⟩,⟨some 8,none,.nck (.t 7)⟩,⟨some 9,none,.faddr 2 (.t 8)⟩,⟨some 10,none,.load none (.t 9)⟩,⟨some 11,none,.cmp .lss (.t 10) (.c (.int .i64 0))⟩,⟨some 12,none,.mov (.t 11)⟩,⟨some 13,(some (12,true)),.mov (.t 0)⟩,⟨some 14,(some (12,true)),.callb spec_l6Sign [.t 13,.c (.string ⟨#[41]⟩)] [true,false]⟩,⟨some 15,(some (12,true)),.not (.t 14)⟩,⟨some 16,none,.pick (.t 12) (.t 15) (.c (.bool false))⟩])
 (.cond (.t 16) (.skip)
 (.seq (.keep [0,3]) (.exit 0))))
 (.block 1 (.seq (.seq (.ops [⟨some 17,none,.mov (.t 3)⟩,⟨some 18,none,.len (.t 17)⟩,⟨some 19,none,.cmp .gtr (.t 18) (.c (.int .i64 0))⟩])
 (.cond (.t 19) (.ops [⟨some 20,none,.mov (.t 0)⟩,⟨some 21,none,.callb spec_l6Take [.t 20,.c (.string ⟨#[44]⟩)] [true,false]⟩])
 (.skip)))
 (.ops [⟨some 22,none,.mov (.t 3)⟩,⟨some 23,none,.mov (.t 0)⟩,⟨some 24,none,.callb spec_l6Expr [.t 23] [true]⟩,⟨some 25,none,.lit 4 [.t 24]⟩,⟨some 26,none,.app 4 56 (.t 22) (.t 25)⟩,⟨some 3,none,.mov (.t 26)⟩])))
/-- loop.example/g00286/spec.l6List -/
def c_spec_l6List : SCode :=
 .seq (.ops [⟨some 2,none,.mov (.n 4)⟩])
 (.seq (.ops [⟨some 4,none,.lit 4 []⟩,⟨some 3,none,.mov (.t 4)⟩])
 (.seq (.ops [⟨some 5,none,.mov (.t 0)⟩,⟨some 6,none,.callb spec_l6Take [.t 5,.c (.string ⟨#[40]⟩)] [true,false]⟩])
 (.seq (.block 0 (.loop [0,3] b_spec_l6List_0))
 (.seq (.ops [⟨some 27,none,.mov (.t 0)⟩,⟨some 28,none,.callb spec_l6Take [.t 27,.c (.string ⟨#[41]⟩)] [true,false]⟩])
 (.seq (.ops [⟨some 29,none,.mov (.t 3)⟩,⟨some 2,none,.mov (.t 29)⟩])
 (.ret))))))
def s_spec_l6List : SFn := ⟨1, 30, c_spec_l6List, [.t 2]⟩
/-- loop.example/g00286/spec.l6Recv -/
def c_spec_l6Recv : SCode :=
 .seq (.ops [⟨some 4,none,.alloc [.v (.int .i64 0),.v (.string ⟨#[]⟩),.v (.int .i64 0),.s 4 []]⟩])
 (.seq (.ops [⟨some 7,none,.mov (.t 0)⟩,⟨some 8,none,.callb spec_l6Name [.t 7] [true]⟩,⟨some 5,none,.mov (.t 8)⟩])
 (.seq (.ops [⟨some 9,none,.mov (.t 0)⟩,⟨some 10,none,.callb spec_l6Take [.t 9,.c (.string ⟨#[44]⟩)] [true,false]⟩])
 (.seq (.ops [⟨some 11,none,.mov (.t 0)⟩,⟨some 12,none,.callb spec_l6Expr [.t 11] [true]⟩,⟨some 6,none,.alloc [.v (.int .i64 0),.v (.string ⟨#[]⟩),.v (.int .i64 0),.s 4 []]⟩,⟨none,none,.store 4 (.t 6) (.t 12)⟩])
 (.seq (.ops [⟨some 13,none,.mov (.t 1)⟩,⟨some 14,none,.mov (.t 5)⟩,⟨some 15,none,.load (some 4) (.t 6)⟩,⟨some 16,none,.lit 4 [.t 15]⟩,⟨some 17,none,.build [.v (.int .i64 0),.v (.string ⟨#[]⟩),.v (.int .i64 0),.s 4 []] [(0,1,.t 13),(1,1,.t 14),(3,1,.t 16)]⟩,⟨none,none,.store 4 (.t 4) (.t 17)⟩])
 (.ret)))))
def s_spec_l6Recv : SFn := ⟨2, 18, c_spec_l6Recv, [.c 4 (some 4)]⟩
/-- loop.example/g00286/spec.l6Two -/
def c_spec_l6Two : SCode :=
 .seq (.ops [⟨some 4,none,.alloc [.v (.int .i64 0),.v (.string ⟨#[]⟩),.v (.int .i64 0),.s 4 []]⟩])
 (.seq (.ops [⟨some 7,none,.mov (.t 0)⟩,⟨some 8,none,.callb spec_l6Expr [.t 7] [true]⟩,⟨some 5,none,.alloc [.v (.int .i64 0),.v (.string ⟨#[]⟩),.v (.int .i64 0),.s 4 []]⟩,⟨none,none,.store 4 (.t 5) (.t 8)⟩])
 (.seq (.ops [⟨some 9,none,.mov (.t 0)⟩,⟨some 10,none,.callb spec_l6Take [.t 9,.c (.string ⟨#[44]⟩)] [true,false]⟩])
 (.seq (.ops [⟨some 11,none,.mov (.t 0)⟩,⟨some 12,none,.callb spec_l6Expr [.t 11] [true]⟩,⟨some 6,none,.alloc [.v (.int .i64 0),.v (.string ⟨#[]⟩),.v (.int .i64 0),.s 4 []]⟩,⟨none,none,.store 4 (.t 6) (.t 12)⟩])
 (.seq (.ops [⟨some 13,none,.mov (.t 1)⟩,⟨some 14,none,.load (some 4) (.t 5)⟩,⟨some 15,none,.load (some 4) (.t 6)⟩,⟨some 16,none,.lit 4 [.t 14,.t 15]⟩,⟨some 17,none,.callb spec_l6Node [.t 13,.t 16] [false,true]⟩,⟨none,none,.store 4 (.t 4) (.t 17)⟩])
 (.ret)))))
def s_spec_l6Two : SFn := ⟨2, 18, c_spec_l6Two, [.c 4 (some 4)]⟩
def b_spec_l6Sum_0 : SCode :=
 .seq (.seq (.ops [⟨some 8,none,.mov (.t 0)⟩,⟨some 9,none,.callb spec_l6Sign [.t 8,.c (.string ⟨#[43]⟩)] [true,false]⟩,⟨some 10,none,.mov (.t 9)⟩,⟨some 11,(some (10,false)),.mov (.t 0)⟩,⟨some 12,(some (10,false)),.callb spec_l6Sign [.t 11,.c (.string ⟨#[45]⟩)] [true,false]⟩,⟨some 13,none,.pick (.t 10) (.c (.bool true)) (.t 12)⟩])
 (.cond (.t 13) (.skip)
 (.seq (.keep [2,3]) (.exit 0))))
 (.block 1 (.seq (.ops [⟨some 4,none,.mov (.c (.int .i64 21))⟩])
 (.seq (.seq (.ops [⟨some 14,none,.mov (.t 0)⟩,⟨some 15,none,.callb spec_l6Sign [.t 14,.c (.string ⟨#[45]⟩)] [true,false]⟩])
 (.cond (.t 15) (.ops [⟨some 4,none,.mov (.c (.int .i64 22))⟩])
 (.skip)))
 (.seq (.ops [⟨some 16,none,.mov (.t 0)⟩,⟨some 17,none,.callb spec_l6Next [.t 16] [true]⟩])
 (.seq (.ops [⟨some 18,none,.mov (.t 0)⟩,⟨some 19,none,.callb spec_l6Product [.t 18] [true]⟩,⟨some 5,none,.alloc [.v (.int .i64 0),.v (.string ⟨#[]⟩),.v (.int .i64 0),.s 4 []]⟩,⟨none,none,.store 4 (.t 5) (.t 19)⟩])
 (.ops [⟨some 20,none,.mov (.t 4)⟩,⟨some 21,none,.load (some 4) (.t 3)⟩,⟨some 22,none,.load (some 4) (.t 5)⟩,⟨some 23,none,.lit 4 [.t 21,.t 22]⟩,⟨some 24,none,.callb spec_l6Node [.t 20,.t 23] [false,true]⟩,⟨none,none,.store 4 (.t 3) (.t 24)⟩]))))))
/-- loop.example/g00286/spec.l6Sum -/
def c_spec_l6Sum : SCode :=
 .seq (.ops [⟨some 2,none,.alloc [.v (.int .i64 0),.v (.string ⟨#[]⟩),.v (.int .i64 0),.s 4 []]⟩])
 (.seq (.ops [⟨some 6,none,.mov (.t 0)⟩,⟨some 7,none,.callb spec_l6Product [.t 6] [true]⟩,⟨some 3,none,.alloc [.v (.int .i64 0),.v (.string ⟨#[]⟩),.v (.int .i64 0),.s 4 []]⟩,⟨none,none,.store 4 (.t 3) (.t 7)⟩])
 (.seq (.block 0 (.loop [0,2,3] b_spec_l6Sum_0))
 (.seq (.ops [⟨some 25,none,.load (some 4) (.t 3)⟩,⟨none,none,.store 4 (.t 2) (.t 25)⟩])
 (.ret))))
def s_spec_l6Sum : SFn := ⟨1, 26, c_spec_l6Sum, [.c 2 (some 4)]⟩
/-- slices.Contains[[]string,string] -/
def c_slices_Contains_string_string : SCode :=
 .seq (.ops [⟨some 4,none,.mov (.c (.bool false))⟩])
 (.seq (.ops [⟨some 5,none,.mov (.t 0)⟩,⟨some 6,none,.mov (.t 1)⟩,⟨some 7,none,.callr slices_Index_string_string [.t 5,.t 6]⟩,⟨some 8,none,.cmp .geq (.t 7) (.c (.int .i64 0))⟩,⟨some 4,none,.mov (.t 8)⟩])
 (.ret))
def s_slices_Contains_string_string : SFn := ⟨2, 9, c_slices_Contains_string_string, [.t 4]⟩
def b_impl_parser_sum_0 : SCode :=
 .block 1 (.seq (.ops [⟨some 4,none,.mov (.c (.int .i64 21))⟩])
 (.seq (.seq (.ops [⟨some 8,none,.mov (.t 0)⟩,⟨some 9,none,.callb impl_parser_take [.t 8,.c (.string ⟨#[43]⟩)] [true,false]⟩,⟨some 10,none,.not (.t 9)⟩])
 (.cond (.t 10) (.seq (.ops [⟨some 4,none,.mov (.c (.int .i64 22))⟩])
 (.seq (.ops [⟨some 11,none,.mov (.t 0)⟩,⟨some 12,none,.callb impl_parser_take [.t 11,.c (.string ⟨#[45]⟩)] [true,false]⟩,⟨some 13,none,.not (.t 12)⟩])
 (.cond (.t 13) (.seq (.ops [⟨some 14,none,.load (some 4) (.t 3)⟩,⟨none,none,.store 4 (.t 2) (.t 14)⟩])
 (.seq (.keep [2]) .ret))
 (.skip))))
 (.skip)))
 (.seq (.ops [⟨some 15,none,.mov (.t 0)⟩,⟨some 16,none,.callb impl_parser_product [.t 15] [true]⟩,⟨some 5,none,.alloc [.v (.int .i64 0),.v (.string ⟨#[]⟩),.v (.int .i64 0),.s 4 []]⟩,⟨none,none,.store 4 (.t 5) (.t 16)⟩])
 (.ops [⟨some 17,none,.mov (.t 4)⟩,⟨some 18,none,.load (some 4) (.t 3)⟩,⟨some 19,none,.load (some 4) (.t 5)⟩,⟨some 20,none,.lit 4 [.t 18,.t 19]⟩,⟨some 21,none,.build [.v (.int .i64 0),.v (.string ⟨#[]⟩),.v (.int .i64 0),.s 4 []] [(0,1,.t 17),(3,1,.t 20)]⟩,⟨none,none,.store 4 (.t 3) (.t 21)⟩]))))
/-- (*loop.example/g00286/impl.parser).sum -/
def c_impl_parser_sum : SCode :=
 .seq (.ops [⟨some 2,none,.alloc [.v (.int .i64 0),.v (.string ⟨#[]⟩),.v (.int .i64 0),.s 4 []]⟩])
 (.seq (.ops [⟨some 6,none,.mov (.t 0)⟩,⟨some 7,none,.callb impl_parser_product [.t 6] [true]⟩,⟨some 3,none,.alloc [.v (.int .i64 0),.v (.string ⟨#[]⟩),.v (.int .i64 0),.s 4 []]⟩,⟨none,none,.store 4 (.t 3) (.t 7)⟩])
 (.block 0 (.loop [0,2,3] b_impl_parser_sum_0)))
def s_impl_parser_sum : SFn := ⟨1, 22, c_impl_parser_sum, [.c 2 (some 4)]⟩
/-- (*loop.example/g00286/impl.parser).received -/
def c_impl_parser_received : SCode :=
 .seq (.ops [⟨some 4,none,.alloc [.v (.int .i64 0),.v (.string ⟨#[]⟩),.v (.int .i64 0),.s 4 []]⟩])
 (.seq (.ops [⟨some 7,none,.mov (.t 0)⟩,⟨some 8,none,.callb impl_parser_name [.t 7] [true]⟩,⟨some 5,none,.mov (.t 8)⟩])
 (.seq (.ops [⟨some 9,none,.mov (.t 0)⟩,⟨some 10,none,.callb impl_parser_need [.t 9,.c (.string ⟨#[44]⟩)] [true,false]⟩])
 (.seq (.ops [⟨some 11,none,.mov (.t 0)⟩,⟨some 12,none,.callb impl_parser_expr [.t 11] [true]⟩,⟨some 6,none,.alloc [.v (.int .i64 0),.v (.string ⟨#[]⟩),.v (.int .i64 0),.s 4 []]⟩,⟨none,none,.store 4 (.t 6) (.t 12)⟩])
 (.seq (.ops [⟨some 13,none,.mov (.t 1)⟩,⟨some 14,none,.mov (.t 5)⟩,⟨some 15,none,.load (some 4) (.t 6)⟩,⟨some 16,none,.lit 4 [.t 15]⟩,⟨some 17,none,.build [.v (.int .i64 0),.v (.string ⟨#[]⟩),.v (.int .i64 0),.s 4 []] [(0,1,.t 13),(1,1,.t 14),(3,1,.t 16)]⟩,⟨none,none,.store 4 (.t 4) (.t 17)⟩])
 (.ret)))))
def s_impl_parser_received : SFn := ⟨2, 18, c_impl_parser_received, [.c 4 (some 4)]⟩
/-- (*loop.example/g00286/impl.parser).two -/
def c_impl_parser_two : SCode :=
 .seq (.ops [⟨some 2,none,.mov (.n 4)⟩])
 (.seq (.ops [⟨some 5,none,.mov (.t 0)⟩,⟨some 6,none,.callb impl_parser_expr [.t 5] [true]⟩,⟨some 3,none,.alloc [.v (.int .i64 0),.v (.string ⟨#[]⟩),.v (.int .i64 0),.s 4 []]⟩,⟨none,none,.store 4 (.t 3) (.t 6)⟩])
 (.seq (.ops [⟨some 7,none,.mov (.t 0)⟩,⟨some 8,none,.callb impl_parser_need [.t 7,.c (.string ⟨#[44]⟩)] [true,false]⟩])
 (.seq (.ops [⟨some 9,none,.mov (.t 0)⟩,⟨some 10,none,.callb impl_parser_expr [.t 9] [true]⟩,⟨some 4,none,.alloc [.v (.int .i64 0),.v (.string ⟨#[]⟩),.v (.int .i64 0),.s 4 []]⟩,⟨none,none,.store 4 (.t 4) (.t 10)⟩])
 (.seq (.ops [⟨some 11,none,.load (some 4) (.t 3)⟩,⟨some 12,none,.load (some 4) (.t 4)⟩,⟨some 13,none,.lit 4 [.t 11,.t 12]⟩,⟨some 2,none,.mov (.t 13)⟩])
 (.ret)))))
def s_impl_parser_two : SFn := ⟨1, 14, c_impl_parser_two, [.t 2]⟩
def b_impl_parser_exprs_0 : SCode :=
 .seq (.seq (.ops [⟨some 17,none,.mov (.t 0)⟩,⟨some 18,none,.nck (.t 17)⟩,⟨some 19,none,.faddr 2 (.t 18)⟩,⟨some 20,none,.load none (.t 19)⟩,⟨some 21,none,.cmp .lss (.t 20) (.c (.int .i64 0))⟩])
 (.cond (.t 21) (.skip)
 (.seq (.keep [0,4,5]) (.exit 0))))
 (.block 1 (.seq (.ops [⟨some 22,none,.mov (.t 0)⟩,⟨some 23,none,.callb impl_parser_expr [.t 22] [true]⟩,⟨some 6,none,.alloc [.v (.int .i64 0),.v (.string ⟨#[]⟩),.v (.int .i64 0),.s 4 []]⟩,⟨none,none,.store 4 (.t 6) (.t 23)⟩])
 (.seq (.ops [⟨some 24,none,.mov (.t 5)⟩,⟨some 25,none,.load (some 4) (.t 6)⟩,⟨some 26,none,.lit 4 [.t 25]⟩,⟨some 27,none,.app 4 56 (.t 24) (.t 26)⟩,⟨some 5,none,.mov (.t 27)⟩])
 (.seq (.ops [⟨some 28,none,.mov (.t 0)⟩,⟨some 29,none,.callb impl_parser_take [.t 28,.c (.string ⟨#[44]⟩)] [true,false]⟩,⟨some 30,none,.not (.t 29)⟩])
 (.cond (.t 30) (.seq (.keep [0,4,5]) (.exit 0))
 (.skip))))))
/-- (*loop.example/g00286/impl.parser).exprs -/
def c_impl_parser_exprs : SCode :=
 .seq (.ops [⟨some 2,none,.mov (.n 4)⟩,⟨some 3,none,.mov (.c (.int .i64 0))⟩])
 (.seq (.ops [⟨some 7,none,.mov (.t 0)⟩,⟨some 8,none,.callb impl_parser_here [.t 7] [true]⟩,⟨some 9,none,.fld 3 none (.t 8)⟩,⟨some 4,none,.mov (.t 9)⟩])
 (.seq (.ops [⟨some 10,none,.mov (.t 0)⟩,⟨some 11,none,.callb impl_parser_need [.t 10,.c (.string ⟨#[40]⟩)] [true,false]⟩])
 (.seq (.ops [⟨some 12,none,.lit 4 []⟩,⟨some 5,none,.mov (.t 12)⟩])
 (.seq (.seq (.ops [⟨some 13,none,.mov (.t 0)⟩,⟨some 14,none,.callb impl_parser_take [.t 13,.c (.string ⟨#[41]⟩)] [true,false]⟩])
 (.cond (.t 14) (.seq (.ops [⟨some 15,none,.mov (.t 5)⟩,⟨some 16,none,.mov (.t 4)⟩,⟨some 2,none,.mov (.t 15)⟩,⟨some 3,none,.mov (.t 16)⟩])
 (.ret))
 (.skip)))
 (.seq (.block 0 (.loop [0,4,5] b_impl_parser_exprs_0))
 (.seq (.ops [⟨some 31,none,.mov (.t 0)⟩,⟨some 32,none,.callb impl_parser_need [.t 31,.c (.string ⟨#[41]⟩)] [true,false]⟩])
 (.seq (.ops [⟨some 33,none,.mov (.t 5)⟩,⟨some 34,none,.mov (.t 4)⟩,⟨some 2,none,.mov (.t 33)⟩,⟨some 3,none,.mov (.t 34)⟩])
 (.ret))))))))
def s_impl_parser_exprs : SFn := ⟨1, 35, c_impl_parser_exprs, [.t 2, .t 3]⟩
/-- (*loop.example/g00286/impl.parser).oneExpr -/
def c_impl_parser_oneExpr : SCode :=
 .seq (.ops [⟨some 2,none,.alloc [.v (.int .i64 0),.v (.string ⟨#[]⟩),.v (.int .i64 0),.s 4 []]⟩])
 (.seq (.ops [⟨some 3,none,.mov (.c (.int .i64 18))⟩])
 (.seq (.block 0 (.seq (.ops [⟨some 7,none,.mov (.t 0)⟩,⟨some 8,none,.callb impl_parser_take [.t 7,.c (.string ⟨#[112,114,105,110,116]⟩)] [true,false]⟩,⟨some 6,none,.mov (.t 8)⟩])
 (.cond (.t 6) (.ops [⟨some 3,none,.mov (.c (.int .i64 6))⟩])
 (.seq (.ops [⟨some 10,none,.mov (.t 0)⟩,⟨some 11,none,.callb impl_parser_take [.t 10,.c (.string ⟨#[114,101,116,117,114,110]⟩)] [true,false]⟩,⟨some 9,none,.mov (.t 11)⟩])
 (.cond (.t 9) (.ops [⟨some 3,none,.mov (.c (.int .i64 7))⟩])
 (.seq (.ops [⟨some 13,none,.mov (.t 0)⟩,⟨some 14,none,.callb impl_parser_take [.t 13,.c (.string ⟨#[99,108,111,115,101]⟩)] [true,false]⟩,⟨some 12,none,.mov (.t 14)⟩])
 (.cond (.t 12) (.ops [⟨some 3,none,.mov (.c (.int .i64 11))⟩])
 (.seq (.ops [⟨some 16,none,.mov (.t 0)⟩,⟨some 17,none,.callb impl_parser_take [.t 16,.c (.string ⟨#[104,97,108,116]⟩)] [true,false]⟩,⟨some 15,none,.mov (.t 17)⟩])
 (.cond (.t 15) (.ops [⟨some 3,none,.mov (.c (.int .i64 16))⟩])
 (.seq (.ops [⟨some 19,none,.mov (.t 0)⟩,⟨some 20,none,.callb impl_parser_take [.t 19,.c (.string ⟨#[111,117,116]⟩)] [true,false]⟩,⟨some 18,none,.mov (.t 20)⟩])
 (.cond (.t 18) (.ops [⟨some 3,none,.mov (.c (.int .i64 17))⟩])
 (.skip))))))))))))
 (.seq (.ops [⟨some 21,none,.mov (.t 0)⟩,⟨some 22,none,.callb impl_parser_expr [.t 21] [true]⟩,⟨some 4,none,.alloc [.v (.int .i64 0),.v (.string ⟨#[]⟩),.v (.int .i64 0),.s 4 []]⟩,⟨none,none,.store 4 (.t 4) (.t 22)⟩])
 (.seq (.seq (.ops [⟨some 23,none,.mov (.t 3)⟩,⟨some 24,none,.cmp .eql (.t 23) (.c (.int .i64 18))⟩,⟨some 25,none,.mov (.t 24)⟩,⟨some 26,(some (25,true)),.faddr 0 (.t 4)⟩,⟨some 27,(some (25,true)),.load none (.t 26)⟩,⟨some 28,(some (25,true)),.cmp .eql (.t 27) (.c (.int .i64 20))⟩,⟨some 29,none,.pick (.t 25) (.t 28) (.c (.bool false))⟩,⟨some 30,none,.mov (.t 29)⟩,⟨some 31,(some (30,true)),.mov (.t 0)⟩,⟨some 32,(some (30,true)),.callb impl_parser_take [.t 31,.c (.string ⟨#[61]⟩)] [true,false]⟩,⟨some 33,none,.pick (.t 30) (.t 32) (.c (.bool false))⟩])
 (.cond (.t 33) (.seq (.ops [⟨some 34,none,.mov (.t 0)⟩,⟨some 35,none,.callb impl_parser_expr [.t 34] [true]⟩,⟨some 5,none,.alloc [.v (.int .i64 0),.v (.string ⟨#[]⟩),.v (.int .i64 0),.s 4 []]⟩,⟨none,none,.store 4 (.t 5) (.t 35)⟩])
 (.seq (.ops [⟨some 36,none,.faddr 1 (.t 4)⟩,⟨some 37,none,.load none (.t 36)⟩,⟨some 38,none,.load (some 4) (.t 5)⟩,⟨some 39,none,.lit 4 [.t 38]⟩,⟨some 40,none,.build [.v (.int .i64 0),.v (.string ⟨#[]⟩),.v (.int .i64 0),.s 4 []] [(0,1,.c (.int .i64 3)),(1,1,.t 37),(3,1,.t 39)]⟩,⟨none,none,.store 4 (.t 2) (.t 40)⟩])
 (.ret)))
 (.skip)))
 (.seq (.ops [⟨some 41,none,.mov (.t 3)⟩,⟨some 42,none,.load (some 4) (.t 4)⟩,⟨some 43,none,.lit 4 [.t 42]⟩,⟨some 44,none,.build [.v (.int .i64 0),.v (.string ⟨#[]⟩),.v (.int .i64 0),.s 4 []] [(0,1,.t 41),(3,1,.t 43)]⟩,⟨none,none,.store 4 (.t 2) (.t 44)⟩])
 (.ret))))))
def s_impl_parser_oneExpr : SFn := ⟨1, 45, c_impl_parser_oneExpr, [.c 2 (some 4)]⟩
def b_spec_l6Product_0 : SCode :=
 .seq (.seq (.ops [⟨some 7,none,.mov (.t 0)⟩,⟨some 8,none,.callb spec_l6Sign [.t 7,.c (.string ⟨#[42]⟩)] [true,false]⟩])
 (.cond (.t 8) (.skip)
 (.seq (.keep [2,3]) (.exit 0))))
 (.block 1 (.seq (.ops [⟨some 9,none,.mov (.t 0)⟩,⟨some 10,none,.callb spec_l6Next [.t 9] [true]⟩])
 (.seq (.ops [⟨some 11,none,.mov (.t 0)⟩,⟨some 12,none,.callb spec_l6Atom [.t 11] [true]⟩,⟨some 4,none,.alloc [.v (.int .i64 0),.v (.string ⟨#[]⟩),.v (.int .i64 0),.s 4 []]⟩,⟨none,none,.store 4 (.t 4) (.t 12)⟩])
 (.ops [⟨some 13,none,.load (some 4) (.t 3)⟩,⟨some 14,none,.load (some 4) (.t 4)⟩,⟨some 15,none,.lit 4 [.t 13,.t 14]⟩,⟨some 16,none,.callb spec_l6Node [.c (.int .i64 23),.t 15] [false,true]⟩,⟨none,none,.store 4 (.t 3) (.t 16)⟩]))))
/-- loop.example/g00286/spec.l6Product -/
def c_spec_l6Product : SCode :=
 .seq (.ops [⟨some 2,none,.alloc [.v (.int .i64 0),.v (.string ⟨#[]⟩),.v (.int .i64 0),.s 4 []]⟩])
 (.seq (.ops [⟨some 5,none,.mov (.t 0)⟩,⟨some 6,none,.callb spec_l6Atom [.t 5] [true]⟩,⟨some 3,none,.alloc [.v (.int .i64 0),.v (.string ⟨#[]⟩),.v (.int .i64 0),.s 4 []]⟩,⟨none,none,.store 4 (.t 3) (.t 6)⟩])
 (.seq (.block 0 (.loop [0,2,3] b_spec_l6Product_0))
 (.seq (.ops [⟨some 17,none,.load (some 4) (.t 3)⟩,⟨none,none,.store 4 (.t 2) (.t 17)⟩])
 (.ret))))
def s_spec_l6Product : SFn := ⟨1, 18, c_spec_l6Product, [.c 2 (some 4)]⟩
def b_slices_Index_string_string_0 : SCode :=
 .seq (.ops [⟨some 9,none,.cmp .lss (.t 8) (.t 7)⟩])
 (.seq (.cond (.t 9) (.skip)
 (.seq (.keep []) (.exit 0)))
 (.seq (.block 1 (.seq (.ops [⟨some 10,none,.mov (.t 8)⟩,⟨some 5,none,.mov (.t 10)⟩])
 (.seq (.ops [⟨some 11,none,.mov (.t 1)⟩,⟨some 12,none,.mov (.t 0)⟩,⟨some 13,none,.mov (.t 5)⟩,⟨some 14,none,.ixa 1 (.t 12) (.t 13)⟩,⟨some 15,none,.load none (.t 14)⟩,⟨some 16,none,.cmp .eql (.t 11) (.t 15)⟩])
 (.cond (.t 16) (.seq (.ops [⟨some 17,none,.mov (.t 5)⟩,⟨some 4,none,.mov (.t 17)⟩])
 (.seq (.keep [4]) .ret))
 (.skip)))))
 (.ops [⟨some 18,none,.ari .add (.t 8) (.c (.int .i64 1))⟩,⟨some 8,none,.mov (.t 18)⟩])))
/-- slices.Index[[]string,string] -/
def c_slices_Index_string_string : SCode :=
 .seq (.ops [⟨some 4,none,.mov (.c (.int .i64 0))⟩])
 (.seq (.seq (.ops [⟨some 6,none,.mov (.t 0)⟩,⟨some 7,none,.len (.t 6)⟩,⟨some 8,none,.mov (.c (.int .i64 0))⟩])
 (.block 0 (.loop [0,1,7,8] b_slices_Index_string_string_0)))
 (.seq (.ops [⟨some 4,none,.mov (.c (.int .i64 (-1)))⟩])
 (.ret)))
def s_slices_Index_string_string : SFn := ⟨2, 19, c_slices_Index_string_string, [.t 4]⟩
def b_impl_parser_product_0 : SCode :=
 .seq (.seq (.ops [⟨some 7,none,.mov (.t 0)⟩,⟨some 8,none,.callb impl_parser_take [.t 7,.c (.string ⟨#[42]⟩)] [true,false]⟩])
 (.cond (.t 8) (.skip)
 (.seq (.keep [2,3]) (.exit 0))))
 (.block 1 (.seq (.ops [⟨some 9,none,.mov (.t 0)⟩,⟨some 10,none,.callb impl_parser_atom [.t 9] [true]⟩,⟨some 4,none,.alloc [.v (.int .i64 0),.v (.string ⟨#[]⟩),.v (.int .i64 0),.s 4 []]⟩,⟨none,none,.store 4 (.t 4) (.t 10)⟩])
 (.ops [⟨some 11,none,.load (some 4) (.t 3)⟩,⟨some 12,none,.load (some 4) (.t 4)⟩,⟨some 13,none,.lit 4 [.t 11,.t 12]⟩,⟨some 14,none,.build [.v (.int .i64 0),.v (.string ⟨#[]⟩),.v (.int .i64 0),.s 4 []] [(0,1,.c (.int .i64 23)),(3,1,.t 13)]⟩,⟨none,none,.store 4 (.t 3) (.t 14)⟩])))
/-- (*loop.example/g00286/impl.parser).product -/
def c_impl_parser_product : SCode :=
 .seq (.ops [⟨some 2,none,.alloc [.v (.int .i64 0),.v (.string ⟨#[]⟩),.v (.int .i64 0),.s 4 []]⟩])
 (.seq (.ops [⟨some 5,none,.mov (.t 0)⟩,⟨some 6,none,.callb impl_parser_atom [.t 5] [true]⟩,⟨some 3,none,.alloc [.v (.int .i64 0),.v (.string ⟨#[]⟩),.v (.int .i64 0),.s 4 []]⟩,⟨none,none,.store 4 (.t 3) (.t 6)⟩])
 (.seq (.block 0 (.loop [0,2,3] b_impl_parser_product_0))
 (.seq (.ops [⟨some 15,none,.load (some 4) (.t 3)⟩,⟨none,none,.store 4 (.t 2) (.t 15)⟩])
 (.ret))))
def s_impl_parser_product : SFn := ⟨1, 16, c_impl_parser_product, [.c 2 (some 4)]⟩
/-- loop.example/g00286/spec.l6Atom -/
def c_spec_l6Atom : SCode :=
 .seq (.ops [⟨some 2,none,.alloc [.v (.int .i64 0),.v (.string ⟨#[]⟩),.v (.int .i64 0),.s 4 []]⟩])
 (.seq (.ops [⟨some 6,none,.mov (.t 0)⟩,⟨some 7,none,.callb spec_l6Now [.t 6] [true]⟩,⟨some 3,none,.alloc [.v (.int .i64 0),.v (.string ⟨#[]⟩),.v (.int .i64 0),.v (.int .i64 0)]⟩,⟨none,none,.store 4 (.t 3) (.t 7)⟩])
 (.seq (.block 0 (.seq (.ops [⟨some 9,none,.mov (.t 0)⟩,⟨some 10,none,.nck (.t 9)⟩,⟨some 11,none,.faddr 2 (.t 10)⟩,⟨some 12,none,.load none (.t 11)⟩,⟨some 13,none,.cmp .lss (.t 12) (.c (.int .i64 0))⟩,⟨some 14,none,.mov (.t 13)⟩,⟨some 15,(some (14,true)),.faddr 0 (.t 3)⟩,⟨some 16,(some (14,true)),.load none (.t 15)⟩,⟨some 17,(some (14,true)),.cmp .eql (.t 16) (.c (.int .i64 2))⟩,⟨some 18,none,.pick (.t 14) (.t 17) (.c (.bool false))⟩,⟨some 8,none,.mov (.t 18)⟩])
 (.cond (.t 8) (.seq (.ops [⟨some 19,none,.mov (.t 0)⟩,⟨some 20,none,.callb spec_l6Next [.t 19] [true]⟩])
 (.seq (.ops [⟨some 21,none,.faddr 2 (.t 3)⟩,⟨some 22,none,.load none (.t 21)⟩,⟨some 23,none,.build [.v (.int .i64 0),.v (.string ⟨#[]⟩),.v (.int .i64 0),.s 4 []] [(0,1,.c (.int .i64 19)),(2,1,.t 22)]⟩,⟨none,none,.store 4 (.t 2) (.t 23)⟩])
 (.ret)))
 (.seq (.ops [⟨some 25,none,.mov (.t 0)⟩,⟨some 26,none,.callb spec_l6Sign [.t 25,.c (.string ⟨#[45]⟩)] [true,false]⟩,⟨some 24,none,.mov (.t 26)⟩])
 (.cond (.t 24) (.seq (.ops [⟨some 27,none,.mov (.t 0)⟩,⟨some 28,none,.callb spec_l6Next [.t 27] [true]⟩])
 (.seq (.ops [⟨some 29,none,.mov (.t 0)⟩,⟨some 30,none,.callb spec_l6Now [.t 29] [true]⟩,⟨none,none,.store 4 (.t 3) (.t 30)⟩])
 (.seq (.seq (.ops [⟨some 31,none,.faddr 0 (.t 3)⟩,⟨some 32,none,.load none (.t 31)⟩,⟨some 33,none,.cmp .neq (.t 32) (.c (.int .i64 2))⟩])
 (.cond (.t 33) (.seq (.ops [⟨some 34,none,.mov (.t 0)⟩,⟨some 35,none,.callb spec_l6Bad [.t 34] [true]⟩])
 (.seq (.ops [⟨some 36,none,.build [.v (.int .i64 0),.v (.string ⟨#[]⟩),.v (.int .i64 0),.s 4 []] []⟩,⟨none,none,.store 4 (.t 2) (.t 36)⟩])
 (.ret)))
 (.skip)))
 (.seq (.ops [⟨some 37,none,.mov (.t 0)⟩,⟨some 38,none,.callb spec_l6Next [.t 37] [true]⟩])
 (.seq (.ops [⟨some 39,none,.faddr 2 (.t 3)⟩,⟨some 40,none,.load none (.t 39)⟩,⟨some 41,none,.ari .sub (.c (.int .i64 0)) (.t 40)⟩,⟨some 42,none,.build [.v (.int .i64 0),.v (.string ⟨#[]⟩),.v (.int .i64 0),.s 4 []] [(0,1,.c (.int .i64 19)),(2,1,.t 41)]⟩,⟨none,none,.store 4 (.t 2) (.t 42)⟩])
 (.ret))))))
 (.seq (.ops [⟨some 44,none,.mov (.t 0)⟩,⟨some 45,none,.callb spec_l6Sign [.t 44,.c (.string ⟨#[40]⟩)] [true,false]⟩,⟨some 43,none,.mov (.t 45)⟩])
 (.cond (.t 43) (.seq (.ops [⟨some 46,none,.mov (.t 0)⟩,⟨some 47,none,.callb spec_l6Next [.t 46] [true]⟩])
 (.seq (.ops [⟨some 48,none,.mov (.t 0)⟩,⟨some 49,none,.callb spec_l6Expr [.t 48] [true]⟩,⟨some 4,none,.alloc [.v (.int .i64 0),.v (.string ⟨#[]⟩),.v (.int .i64 0),.s 4 []]⟩,⟨none,none,.store 4 (.t 4) (.t 49)⟩])
 (.seq (.ops [⟨some 50,none,.mov (.t 0)⟩,⟨some 51,none,.callb spec_l6Take [.t 50,.c (.string ⟨#[41]⟩)] [true,false]⟩])
 (.seq (.ops [⟨some 52,none,.load (some 4) (.t 4)⟩,⟨none,none,.store 4 (.t 2) (.t 52)⟩])
 (.ret)))))
 (.seq (.ops [⟨some 54,none,.mov (.t 0)⟩,⟨some 55,none,.callb spec_l6Is [.t 54,.c (.string ⟨#[109,97,107,101]⟩)] [true,false]⟩,⟨some 53,none,.mov (.t 55)⟩])
 (.cond (.t 53) (.seq (.ops [⟨some 56,none,.mov (.t 0)⟩,⟨some 57,none,.callb spec_l6Built [.t 56,.c (.int .i64 27),.c (.int .i64 1)] [true,false,false]⟩,⟨none,none,.store 4 (.t 2) (.t 57)⟩])
 (.ret))
 (.seq (.ops [⟨some 59,none,.mov (.t 0)⟩,⟨some 60,none,.callb spec_l6Is [.t 59,.c (.string ⟨#[112,101,101,107]⟩)] [true,false]⟩,⟨some 58,none,.mov (.t 60)⟩])
 (.cond (.t 58) (.seq (.ops [⟨some 61,none,.mov (.t 0)⟩,⟨some 62,none,.callb spec_l6Built [.t 61,.c (.int .i64 28),.c (.int .i64 1)] [true,false,false]⟩,⟨none,none,.store 4 (.t 2) (.t 62)⟩])
 (.ret))
 (.seq (.ops [⟨some 64,none,.mov (.t 0)⟩,⟨some 65,none,.callb spec_l6Is [.t 64,.c (.string ⟨#[99,97,115]⟩)] [true,false]⟩,⟨some 63,none,.mov (.t 65)⟩])
 (.cond (.t 63) (.seq (.ops [⟨some 66,none,.mov (.t 0)⟩,⟨some 67,none,.callb spec_l6Built [.t 66,.c (.int .i64 29),.c (.int .i64 3)] [true,false,false]⟩,⟨none,none,.store 4 (.t 2) (.t 67)⟩])
 (.ret))
 (.seq (.ops [⟨some 69,none,.mov (.t 0)⟩,⟨some 70,none,.callb spec_l6Is [.t 69,.c (.string ⟨#[99,111,114,101]⟩)] [true,false]⟩,⟨some 68,none,.mov (.t 70)⟩])
 (.cond (.t 68) (.seq (.ops [⟨some 71,none,.mov (.t 0)⟩,⟨some 72,none,.callb spec_l6Built [.t 71,.c (.int .i64 30),.c (.int .i64 0)] [true,false,false]⟩,⟨none,none,.store 4 (.t 2) (.t 72)⟩])
 (.ret))
 (.seq (.ops [⟨some 74,none,.mov (.t 0)⟩,⟨some 75,none,.callb spec_l6Is [.t 74,.c (.string ⟨#[97,100,100,114]⟩)] [true,false]⟩,⟨some 73,none,.mov (.t 75)⟩])
 (.cond (.t 73) (.seq (.ops [⟨some 76,none,.mov (.t 0)⟩,⟨some 77,none,.callb spec_l6Next [.t 76] [true]⟩])
 (.seq (.ops [⟨some 78,none,.mov (.t 0)⟩,⟨some 79,none,.callb spec_l6Name [.t 78] [true]⟩,⟨some 80,none,.build [.v (.int .i64 0),.v (.string ⟨#[]⟩),.v (.int .i64 0),.s 4 []] [(0,1,.c (.int .i64 31)),(1,1,.t 79)]⟩,⟨none,none,.store 4 (.t 2) (.t 80)⟩])
 (.ret)))
 (.skip))))))))))))))))))
 (.seq (.ops [⟨some 81,none,.mov (.t 0)⟩,⟨some 82,none,.callb spec_l6Name [.t 81] [true]⟩,⟨some 5,none,.mov (.t 82)⟩])
 (.seq (.seq (.ops [⟨some 83,none,.mov (.t 0)⟩,⟨some 84,none,.callb spec_l6Sign [.t 83,.c (.string ⟨#[40]⟩)] [true,false]⟩])
 (.cond (.t 84) (.seq (.ops [⟨some 85,none,.mov (.t 5)⟩,⟨some 86,none,.mov (.t 0)⟩,⟨some 87,none,.callb spec_l6List [.t 86] [true]⟩,⟨some 88,none,.build [.v (.int .i64 0),.v (.string ⟨#[]⟩),.v (.int .i64 0),.s 4 []] [(0,1,.c (.int .i64 26)),(1,1,.t 85),(3,1,.t 87)]⟩,⟨none,none,.store 4 (.t 2) (.t 88)⟩])
 (.ret))
 (.skip)))
 (.seq (.ops [⟨some 89,none,.mov (.t 5)⟩,⟨some 90,none,.build [.v (.int .i64 0),.v (.string ⟨#[]⟩),.v (.int .i64 0),.s 4 []] [(0,1,.c (.int .i64 20)),(1,1,.t 89)]⟩,⟨none,none,.store 4 (.t 2) (.t 90)⟩])
 (.ret))))))
def s_spec_l6Atom : SFn := ⟨1, 91, c_spec_l6Atom, [.c 2 (some 4)]⟩
/-- (*loop.example/g00286/impl.parser).atom -/
def c_impl_parser_atom : SCode :=
 .seq (.ops [⟨some 2,none,.alloc [.v (.int .i64 0),.v (.string ⟨#[]⟩),.v (.int .i64 0),.s 4 []]⟩])
 (.seq (.block 0 (.seq (.ops [⟨some 8,none,.mov (.t 0)⟩,⟨some 9,none,.callb impl_parser_here [.t 8] [true]⟩,⟨some 10,none,.fld 0 none (.t 9)⟩,⟨some 11,none,.cmp .eql (.t 10) (.c (.int .i64 2))⟩,⟨some 7,none,.mov (.t 11)⟩])
 (.cond (.t 7) (.seq (.ops [⟨some 12,none,.mov (.t 0)⟩,⟨some 13,none,.callb impl_parser_number [.t 12] [true]⟩,⟨some 14,none,.build [.v (.int .i64 0),.v (.string ⟨#[]⟩),.v (.int .i64 0),.s 4 []] [(0,1,.c (.int .i64 19)),(2,1,.t 13)]⟩,⟨none,none,.store 4 (.t 2) (.t 14)⟩])
 (.ret))
 (.seq (.ops [⟨some 16,none,.mov (.t 0)⟩,⟨some 17,none,.callb impl_parser_take [.t 16,.c (.string ⟨#[45]⟩)] [true,false]⟩,⟨some 15,none,.mov (.t 17)⟩])
 (.cond (.t 15) (.seq (.ops [⟨some 18,none,.mov (.t 0)⟩,⟨some 19,none,.callb impl_parser_number [.t 18] [true]⟩,⟨some 20,none,.neg (.t 19)⟩,⟨some 21,none,.build [.v (.int .i64 0),.v (.string ⟨#[]⟩),.v (.int .i64 0),.s 4 []] [(0,1,.c (.int .i64 19)),(2,1,.t 20)]⟩,⟨none,none,.store 4 (.t 2) (.t 21)⟩])
 (.ret))
 (.seq (.ops [⟨some 23,none,.mov (.t 0)⟩,⟨some 24,none,.callb impl_parser_take [.t 23,.c (.string ⟨#[40]⟩)] [true,false]⟩,⟨some 22,none,.mov (.t 24)⟩])
 (.cond (.t 22) (.seq (.ops [⟨some 25,none,.mov (.t 0)⟩,⟨some 26,none,.callb impl_parser_expr [.t 25] [true]⟩,⟨some 3,none,.alloc [.v (.int .i64 0),.v (.string ⟨#[]⟩),.v (.int .i64 0),.s 4 []]⟩,⟨none,none,.store 4 (.t 3) (.t 26)⟩])
 (.seq (.ops [⟨some 27,none,.mov (.t 0)⟩,⟨some 28,none,.callb impl_parser_need [.t 27,.c (.string ⟨#[41]⟩)] [true,false]⟩])
 (.seq (.ops [⟨some 29,none,.load (some 4) (.t 3)⟩,⟨none,none,.store 4 (.t 2) (.t 29)⟩])
 (.ret))))
 (.seq (.ops [⟨some 31,none,.mov (.t 0)⟩,⟨some 32,none,.callb impl_parser_take [.t 31,.c (.string ⟨#[109,97,107,101]⟩)] [true,false]⟩,⟨some 30,none,.mov (.t 32)⟩])
 (.cond (.t 30) (.seq (.ops [⟨some 33,none,.mov (.t 0)⟩,⟨some 34,none,.callb impl_parser_special [.t 33,.c (.int .i64 27),.c (.int .i64 1)] [true,false,false]⟩,⟨none,none,.store 4 (.t 2) (.t 34)⟩])
 (.ret))
 (.seq (.ops [⟨some 36,none,.mov (.t 0)⟩,⟨some 37,none,.callb impl_parser_take [.t 36,.c (.string ⟨#[112,101,101,107]⟩)] [true,false]⟩,⟨some 35,none,.mov (.t 37)⟩])
 (.cond (.t 35) (.seq (.ops [⟨some 38,none,.mov (.t 0)⟩,⟨some 39,none,.callb impl_parser_special [.t 38,.c (.int .i64 28),.c (.int .i64 1)] [true,false,false]⟩,⟨none,none,.store 4 (.t 2) (.t 39)⟩])
 (.ret))
 (.seq (.ops [⟨some 41,none,.mov (.t 0)⟩,⟨some 42,none,.callb impl_parser_take [.t 41,.c (.string ⟨#[99,97,115]⟩)] [true,false]⟩,⟨some 40,none,.mov (.t 42)⟩])
 (.cond (.t 40) (.seq (.ops [⟨some 43,none,.mov (.t 0)⟩,⟨some 44,none,.callb impl_parser_special [.t 43,.c (.int .i64 29),.c (.int .i64 3)] [true,false,false]⟩,⟨none,none,.store 4 (.t 2) (.t 44)⟩])
 (.ret))
 (.seq (.ops [⟨some 46,none,.mov (.t 0)⟩,⟨some 47,none,.callb impl_parser_take [.t 46,.c (.string ⟨#[99,111,114,101]⟩)] [true,false]⟩,⟨some 45,none,.mov (.t 47)⟩])
 (.cond (.t 45) (.seq (.ops [⟨some 48,none,.mov (.t 0)⟩,⟨some 49,none,.callb impl_parser_special [.t 48,.c (.int .i64 30),.c (.int .i64 0)] [true,false,false]⟩,⟨none,none,.store 4 (.t 2) (.t 49)⟩])
 (.ret))
 (.seq (.ops [⟨some 51,none,.mov (.t 0)⟩,⟨some 52,none,.callb impl_parser_take [.t 51,.c (.string ⟨#[97,100,100,114]⟩)] [true,false]⟩,⟨some 50,none,.mov (.t 52)⟩])
 (.cond (.t 50) (.seq (.ops [⟨some 53,none,.mov (.t 0)⟩,⟨some 54,none,.callb impl_parser_name [.t 53] [true]⟩,⟨some 55,none,.build [.v (.int .i64 0),.v (.string ⟨#[]⟩),.v (.int .i64 0),.s 4 []] [(0,1,.c (.int .i64 31)),(1,1,.t 54)]⟩,⟨none,none,.store 4 (.t 2) (.t 55)⟩])
 (.ret))
 (.skip))))))))))))))))))
 (.seq (.ops [⟨some 56,none,.mov (.t 0)⟩,⟨some 57,none,.callb impl_parser_name [.t 56] [true]⟩,⟨some 4,none,.mov (.t 57)⟩])
 (.seq (.seq (.ops [⟨some 58,none,.mov (.t 0)⟩,⟨some 59,none,.nck (.t 58)⟩,⟨some 60,none,.faddr 2 (.t 59)⟩,⟨some 61,none,.load none (.t 60)⟩,⟨some 62,none,.cmp .lss (.t 61) (.c (.int .i64 0))⟩,⟨some 63,none,.mov (.t 62)⟩,⟨some 64,(some (63,true)),.mov (.t 0)⟩,⟨some 65,(some (63,true)),.callb impl_parser_here [.t 64] [true]⟩,⟨some 66,(some (63,true)),.fld 1 none (.t 65)⟩,⟨some 67,(some (63,true)),.cmp .eql (.t 66) (.c (.string ⟨#[40]⟩))⟩,⟨some 68,none,.pick (.t 63) (.t 67) (.c (.bool false))⟩])
 (.cond (.t 68) (.seq (.ops [⟨some 70,none,.mov (.t 0)⟩,⟨some 71,none,.callb impl_parser_exprs [.t 70] [true]⟩,⟨some 69,none,.mov (.t 71)⟩,⟨some 72,none,.ext (.t 69) 0⟩,⟨some 73,none,.ext (.t 69) 1⟩,⟨some 5,none,.mov (.t 72)⟩,⟨some 6,none,.mov (.t 73)⟩])
 (.seq (.ops [⟨some 74,none,.mov (.t 4)⟩,⟨some 75,none,.mov (.t 5)⟩,⟨some 76,none,.build [.v (.int .i64 0),.v (.string ⟨#[]⟩),.v (.int .i64 0),.s 4 []] [(0,1,.c (.int .i64 26)),(1,1,.t 74),(3,1,.t 75)]⟩,⟨none,none,.store 4 (.t 2) (.t 76)⟩])
 (.ret)))
 (.skip)))
 (.seq (.ops [⟨some 77,none,.mov (.t 4)⟩,⟨some 78,none,.build [.v (.int .i64 0),.v (.string ⟨#[]⟩),.v (.int .i64 0),.s 4 []] [(0,1,.c (.int .i64 20)),(1,1,.t 77)]⟩,⟨none,none,.store 4 (.t 2) (.t 78)⟩])
 (.ret)))))
def s_impl_parser_atom : SFn := ⟨1, 79, c_impl_parser_atom, [.c 2 (some 4)]⟩
/-- loop.example/g00286/spec.l6Built -/
def c_spec_l6Built : SCode :=
 .seq (.ops [⟨some 6,none,.alloc [.v (.int .i64 0),.v (.string ⟨#[]⟩),.v (.int .i64 0),.s 4 []]⟩])
 (.seq (.ops [⟨some 9,none,.mov (.t 0)⟩,⟨some 10,none,.callb spec_l6Next [.t 9] [true]⟩])
 (.seq (.ops [⟨some 11,none,.mov (.t 0)⟩,⟨some 12,none,.nck (.t 11)⟩,⟨some 13,none,.faddr 1 (.t 12)⟩,⟨some 14,none,.load none (.t 13)⟩,⟨some 7,none,.mov (.t 14)⟩])
 (.seq (.ops [⟨some 15,none,.mov (.t 0)⟩,⟨some 16,none,.callb spec_l6List [.t 15] [true]⟩,⟨some 8,none,.mov (.t 16)⟩])
 (.seq (.seq (.ops [⟨some 17,none,.mov (.t 0)⟩,⟨some 18,none,.nck (.t 17)⟩,⟨some 19,none,.faddr 2 (.t 18)⟩,⟨some 20,none,.load none (.t 19)⟩,⟨some 21,none,.cmp .lss (.t 20) (.c (.int .i64 0))⟩,⟨some 22,none,.mov (.t 21)⟩,⟨some 23,(some (22,true)),.mov (.t 8)⟩,⟨some 24,(some (22,true)),.len (.t 23)⟩,⟨some 25,(some (22,true)),.mov (.t 2)⟩,⟨some 26,(some (22,true)),.cmp .neq (.t 24) (.t 25)⟩,⟨some 27,none,.pick (.t 22) (.t 26) (.c (.bool false))⟩])
 (.cond (.t 27) (.seq (.ops [⟨some 28,none,.mov (.t 0)⟩,⟨some 29,none,.mov (.t 7)⟩,⟨some 30,none,.nck (.t 28)⟩,⟨some 31,none,.faddr 1 (.t 30)⟩,⟨none,none,.store 1 (.t 31) (.t 29)⟩])
 (.ops [⟨some 32,none,.mov (.t 0)⟩,⟨some 33,none,.callb spec_l6Bad [.t 32] [true]⟩]))
 (.skip)))
 (.seq (.ops [⟨some 34,none,.mov (.t 1)⟩,⟨some 35,none,.mov (.t 8)⟩,⟨some 36,none,.build [.v (.int .i64 0),.v (.string ⟨#[]⟩),.v (.int .i64 0),.s 4 []] [(0,1,.t 34),(3,1,.t 35)]⟩,⟨none,none,.store 4 (.t 6) (.t 36)⟩])
 (.ret))))))
def s_spec_l6Built : SFn := ⟨3, 37, c_spec_l6Built, [.c 6 (some 4)]⟩
/-- (*loop.example/g00286/impl.parser).number -/
def c_impl_parser_number : SCode :=
 .seq (.ops [⟨some 2,none,.mov (.c (.int .i64 0))⟩])
 (.seq (.ops [⟨some 4,none,.mov (.t 0)⟩,⟨some 5,none,.callb impl_parser_here [.t 4] [true]⟩,⟨some 3,none,.alloc [.v (.int .i64 0),.v (.string ⟨#[]⟩),.v (.int .i64 0),.v (.int .i64 0)]⟩,⟨none,none,.store 4 (.t 3) (.t 5)⟩])
 (.seq (.seq (.ops [⟨some 6,none,.mov (.t 0)⟩,⟨some 7,none,.nck (.t 6)⟩,⟨some 8,none,.faddr 2 (.t 7)⟩,⟨some 9,none,.load none (.t 8)⟩,⟨some 10,none,.cmp .geq (.t 9) (.c (.int .i64 0))⟩,⟨some 11,none,.mov (.t 10)⟩,⟨some 12,(some (11,false)),.faddr 0 (.t 3)⟩,⟨some 13,(some (11,false)),.load none (.t 12)⟩,⟨some 14,(some (11,false)),.cmp .neq (.t 13) (.c (.int .i64 2))⟩,⟨some 15,none,.pick (.t 11) (.c (.bool true)) (.t 14)⟩])
 (.cond (.t 15) (.seq (.ops [⟨some 16,none,.mov (.t 0)⟩,⟨some 17,none,.faddr 3 (.t 3)⟩,⟨some 18,none,.load none (.t 17)⟩,⟨some 19,none,.callb impl_parser_failAt [.t 16,.t 18] [true,false]⟩])
 (.seq (.ops [⟨some 2,none,.mov (.c (.int .i64 0))⟩])
 (.ret)))
 (.skip)))
 (.seq (.ops [⟨some 20,none,.mov (.t 0)⟩,⟨some 21,none,.callb impl_parser_next [.t 20] [true]⟩])
 (.seq (.ops [⟨some 22,none,.faddr 2 (.t 3)⟩,⟨some 23,none,.load none (.t 22)⟩,⟨some 2,none,.mov (.t 23)⟩])
 (.ret)))))
def s_impl_parser_number : SFn := ⟨1, 24, c_impl_parser_number, [.t 2]⟩
/-- (*loop.example/g00286/impl.parser).special -/
def c_impl_parser_special : SCode :=
 .seq (.ops [⟨some 6,none,.alloc [.v (.int .i64 0),.v (.string ⟨#[]⟩),.v (.int .i64 0),.s 4 []]⟩])
 (.seq (.ops [⟨some 10,none,.mov (.t 0)⟩,⟨some 11,none,.callb impl_parser_exprs [.t 10] [true]⟩,⟨some 9,none,.mov (.t 11)⟩,⟨some 12,none,.ext (.t 9) 0⟩,⟨some 13,none,.ext (.t 9) 1⟩,⟨some 7,none,.mov (.t 12)⟩,⟨some 8,none,.mov (.t 13)⟩])
 (.seq (.seq (.ops [⟨some 14,none,.mov (.t 7)⟩,⟨some 15,none,.len (.t 14)⟩,⟨some 16,none,.mov (.t 2)⟩,⟨some 17,none,.cmp .neq (.t 15) (.t 16)⟩])
 (.cond (.t 17) (.ops [⟨some 18,none,.mov (.t 0)⟩,⟨some 19,none,.mov (.t 8)⟩,⟨some 20,none,.callb impl_parser_failAt [.t 18,.t 19] [true,false]⟩])
 (.skip)))
 (.seq (.ops [⟨some 21,none,.mov (.t 1)⟩,⟨some 22,none,.mov (.t 7)⟩,⟨some 23,none,.build [.v (.int .i64 0),.v (.string ⟨#[]⟩),.v (.int .i64 0),.s 4 []] [(0,1,.t 21),(3,1,.t 22)]⟩,⟨none,none,.store 4 (.t 6) (.t 23)⟩])
 (.ret))))
def s_impl_parser_special : SFn := ⟨3, 24, c_impl_parser_special, [.c 6 (some 4)]⟩
def tabL0 : List (Nat × SFn) := [(8, s_laws_FnExactParse), (41, s_spec_Parse), (42, s_impl_Parse), (43, s_laws_eqFuncS), (44, s_laws_markFuncS), (45, s_laws_heldFuncS), (57, s_laws_markText), (62, s_spec_Digits), (68, s_impl_Digits), (73, s_spec_l1In), (75, s_impl_within), (104, s_spec_Tokens), (105, s_spec_l6Now), (106, s_spec_l6Func), (107, s_spec_l1Max), (108, s_spec_Deep), (109, s_impl_Tokens), (110, s_impl_parser_take), (111, s_impl_parser_function), (112, s_impl_parser_here), (113, s_impl_parser_failAt), (114, s_impl_Deep), (115, s_laws_eqFunc), (116, s_laws_markParamS), (117, s_laws_markNodeS), (118, s_laws_heldParamS), (119, s_laws_heldNodeS), (122, s_spec_WordOk), (126, s_impl_WordOk), (168, s_spec_l5One), (169, s_spec_l6Word), (170, s_spec_l6Name), (171, s_spec_l6Take), (172, s_spec_l6Sign), (173, s_spec_l6Is), (174, s_spec_l6Next), (175, s_spec_l6Block), (176, s_impl_token), (177, s_impl_parser_next), (178, s_impl_parser_name)]
def tabL1 : List (Nat × SFn) := [(179, s_impl_parser_need), (180, s_impl_parser_block), (181, s_laws_eqParamS), (182, s_laws_eqNode), (212, s_spec_l5Letter), (213, s_spec_l5Digit), (214, s_spec_Number), (215, s_spec_l5Sign), (216, s_spec_l6Bad), (217, s_spec_Keyword), (218, s_spec_l6Stmt), (219, s_impl_isLetter), (220, s_impl_run), (221, s_impl_isDigit), (222, s_impl_Number), (223, s_strings_HasPrefix), (224, s_strings_IndexByte), (225, s_impl_parser_isName), (226, s_impl_parser_statement), (227, s_laws_eqParam), (228, s_laws_eqNodeS), (238, s_spec_l6If), (239, s_spec_l6Select), (240, s_spec_l6Begins), (241, s_spec_l6Simple), (242, s_spec_l6Expr), (243, s_spec_l6Node), (244, s_stringslite_HasPrefix), (245, s_stringslite_IndexByte), (246, s_impl_Keyword), (247, s_impl_parser_branch), (248, s_impl_parser_expr), (249, s_impl_parser_choice), (250, s_impl_parser_plain), (252, s_spec_l6Case), (253, s_spec_l6List), (254, s_spec_l6Recv), (255, s_spec_l6Two), (256, s_spec_l6Sum), (258, s_slices_Contains_string_string)]
def tabL2 : List (Nat × SFn) := [(259, s_impl_parser_sum), (260, s_impl_parser_received), (261, s_impl_parser_two), (262, s_impl_parser_exprs), (263, s_impl_parser_oneExpr), (264, s_spec_l6Product), (265, s_slices_Index_string_string), (266, s_impl_parser_product), (267, s_spec_l6Atom), (268, s_impl_parser_atom), (269, s_spec_l6Built), (270, s_impl_parser_number), (271, s_impl_parser_special)]
def tabL : List (Nat × SFn) := tabL0 ++ tabL1 ++ tabL2
def tab (f : Nat) : Option SFn := (tabL.find? fun p => p.1 == f).map fun p => p.2
theorem t_laws_FnExactParse : tab laws_FnExactParse = some s_laws_FnExactParse := rfl
theorem t_spec_Parse : tab spec_Parse = some s_spec_Parse := rfl
theorem t_impl_Parse : tab impl_Parse = some s_impl_Parse := rfl
theorem t_laws_eqFuncS : tab laws_eqFuncS = some s_laws_eqFuncS := rfl
theorem t_laws_markFuncS : tab laws_markFuncS = some s_laws_markFuncS := rfl
theorem t_laws_heldFuncS : tab laws_heldFuncS = some s_laws_heldFuncS := rfl
theorem t_laws_markText : tab laws_markText = some s_laws_markText := rfl
theorem t_spec_Digits : tab spec_Digits = some s_spec_Digits := rfl
theorem t_impl_Digits : tab impl_Digits = some s_impl_Digits := rfl
theorem t_spec_l1In : tab spec_l1In = some s_spec_l1In := rfl
theorem t_impl_within : tab impl_within = some s_impl_within := rfl
theorem t_spec_Tokens : tab spec_Tokens = some s_spec_Tokens := rfl
theorem t_spec_l6Now : tab spec_l6Now = some s_spec_l6Now := rfl
theorem t_spec_l6Func : tab spec_l6Func = some s_spec_l6Func := rfl
theorem t_spec_l1Max : tab spec_l1Max = some s_spec_l1Max := rfl
theorem t_spec_Deep : tab spec_Deep = some s_spec_Deep := rfl
theorem t_impl_Tokens : tab impl_Tokens = some s_impl_Tokens := rfl
theorem t_impl_parser_take : tab impl_parser_take = some s_impl_parser_take := rfl
theorem t_impl_parser_function : tab impl_parser_function = some s_impl_parser_function := rfl
theorem t_impl_parser_here : tab impl_parser_here = some s_impl_parser_here := rfl
theorem t_impl_parser_failAt : tab impl_parser_failAt = some s_impl_parser_failAt := rfl
theorem t_impl_Deep : tab impl_Deep = some s_impl_Deep := rfl
theorem t_laws_eqFunc : tab laws_eqFunc = some s_laws_eqFunc := rfl
theorem t_laws_markParamS : tab laws_markParamS = some s_laws_markParamS := rfl
theorem t_laws_markNodeS : tab laws_markNodeS = some s_laws_markNodeS := rfl
theorem t_laws_heldParamS : tab laws_heldParamS = some s_laws_heldParamS := rfl
theorem t_laws_heldNodeS : tab laws_heldNodeS = some s_laws_heldNodeS := rfl
theorem t_spec_WordOk : tab spec_WordOk = some s_spec_WordOk := rfl
theorem t_impl_WordOk : tab impl_WordOk = some s_impl_WordOk := rfl
theorem t_spec_l5One : tab spec_l5One = some s_spec_l5One := rfl
theorem t_spec_l6Word : tab spec_l6Word = some s_spec_l6Word := rfl
theorem t_spec_l6Name : tab spec_l6Name = some s_spec_l6Name := rfl
theorem t_spec_l6Take : tab spec_l6Take = some s_spec_l6Take := rfl
theorem t_spec_l6Sign : tab spec_l6Sign = some s_spec_l6Sign := rfl
theorem t_spec_l6Is : tab spec_l6Is = some s_spec_l6Is := rfl
theorem t_spec_l6Next : tab spec_l6Next = some s_spec_l6Next := rfl
theorem t_spec_l6Block : tab spec_l6Block = some s_spec_l6Block := rfl
theorem t_impl_token : tab impl_token = some s_impl_token := rfl
theorem t_impl_parser_next : tab impl_parser_next = some s_impl_parser_next := rfl
theorem t_impl_parser_name : tab impl_parser_name = some s_impl_parser_name := rfl
theorem t_impl_parser_need : tab impl_parser_need = some s_impl_parser_need := rfl
theorem t_impl_parser_block : tab impl_parser_block = some s_impl_parser_block := rfl
theorem t_laws_eqParamS : tab laws_eqParamS = some s_laws_eqParamS := rfl
theorem t_laws_eqNode : tab laws_eqNode = some s_laws_eqNode := rfl
theorem t_spec_l5Letter : tab spec_l5Letter = some s_spec_l5Letter := rfl
theorem t_spec_l5Digit : tab spec_l5Digit = some s_spec_l5Digit := rfl
theorem t_spec_Number : tab spec_Number = some s_spec_Number := rfl
theorem t_spec_l5Sign : tab spec_l5Sign = some s_spec_l5Sign := rfl
theorem t_spec_l6Bad : tab spec_l6Bad = some s_spec_l6Bad := rfl
theorem t_spec_Keyword : tab spec_Keyword = some s_spec_Keyword := rfl
theorem t_spec_l6Stmt : tab spec_l6Stmt = some s_spec_l6Stmt := rfl
theorem t_impl_isLetter : tab impl_isLetter = some s_impl_isLetter := rfl
theorem t_impl_run : tab impl_run = some s_impl_run := rfl
theorem t_impl_isDigit : tab impl_isDigit = some s_impl_isDigit := rfl
theorem t_impl_Number : tab impl_Number = some s_impl_Number := rfl
theorem t_strings_HasPrefix : tab strings_HasPrefix = some s_strings_HasPrefix := rfl
theorem t_strings_IndexByte : tab strings_IndexByte = some s_strings_IndexByte := rfl
theorem t_impl_parser_isName : tab impl_parser_isName = some s_impl_parser_isName := rfl
theorem t_impl_parser_statement : tab impl_parser_statement = some s_impl_parser_statement := rfl
theorem t_laws_eqParam : tab laws_eqParam = some s_laws_eqParam := rfl
theorem t_laws_eqNodeS : tab laws_eqNodeS = some s_laws_eqNodeS := rfl
theorem t_spec_l6If : tab spec_l6If = some s_spec_l6If := rfl
theorem t_spec_l6Select : tab spec_l6Select = some s_spec_l6Select := rfl
theorem t_spec_l6Begins : tab spec_l6Begins = some s_spec_l6Begins := rfl
theorem t_spec_l6Simple : tab spec_l6Simple = some s_spec_l6Simple := rfl
theorem t_spec_l6Expr : tab spec_l6Expr = some s_spec_l6Expr := rfl
theorem t_spec_l6Node : tab spec_l6Node = some s_spec_l6Node := rfl
theorem t_stringslite_HasPrefix : tab stringslite_HasPrefix = some s_stringslite_HasPrefix := rfl
theorem t_stringslite_IndexByte : tab stringslite_IndexByte = some s_stringslite_IndexByte := rfl
theorem t_impl_Keyword : tab impl_Keyword = some s_impl_Keyword := rfl
theorem t_impl_parser_branch : tab impl_parser_branch = some s_impl_parser_branch := rfl
theorem t_impl_parser_expr : tab impl_parser_expr = some s_impl_parser_expr := rfl
theorem t_impl_parser_choice : tab impl_parser_choice = some s_impl_parser_choice := rfl
theorem t_impl_parser_plain : tab impl_parser_plain = some s_impl_parser_plain := rfl
theorem t_spec_l6Case : tab spec_l6Case = some s_spec_l6Case := rfl
theorem t_spec_l6List : tab spec_l6List = some s_spec_l6List := rfl
theorem t_spec_l6Recv : tab spec_l6Recv = some s_spec_l6Recv := rfl
theorem t_spec_l6Two : tab spec_l6Two = some s_spec_l6Two := rfl
theorem t_spec_l6Sum : tab spec_l6Sum = some s_spec_l6Sum := rfl
theorem t_slices_Contains_string_string : tab slices_Contains_string_string = some s_slices_Contains_string_string := rfl
theorem t_impl_parser_sum : tab impl_parser_sum = some s_impl_parser_sum := rfl
theorem t_impl_parser_received : tab impl_parser_received = some s_impl_parser_received := rfl
theorem t_impl_parser_two : tab impl_parser_two = some s_impl_parser_two := rfl
theorem t_impl_parser_exprs : tab impl_parser_exprs = some s_impl_parser_exprs := rfl
theorem t_impl_parser_oneExpr : tab impl_parser_oneExpr = some s_impl_parser_oneExpr := rfl
theorem t_spec_l6Product : tab spec_l6Product = some s_spec_l6Product := rfl
theorem t_slices_Index_string_string : tab slices_Index_string_string = some s_slices_Index_string_string := rfl
theorem t_impl_parser_product : tab impl_parser_product = some s_impl_parser_product := rfl
theorem t_spec_l6Atom : tab spec_l6Atom = some s_spec_l6Atom := rfl
theorem t_impl_parser_atom : tab impl_parser_atom = some s_impl_parser_atom := rfl
theorem t_spec_l6Built : tab spec_l6Built = some s_spec_l6Built := rfl
theorem t_impl_parser_number : tab impl_parser_number = some s_impl_parser_number := rfl
theorem t_impl_parser_special : tab impl_parser_special = some s_impl_parser_special := rfl
end Go.Ev.G
