/- The slim code, checked against the given program. Written by gen.py. -/
import Derived.Test.YtcoigakalblkgaaEvTab
import Derived.Test.YtcoigakalblkgaaProg
import Derived.KernelRfl
namespace Go.Ev.G
open Go.Proofs
set_option linter.all false
theorem k_laws_FnExactJoin : chkFn Try.prog 7 s_laws_FnExactJoin = true := by kernel_rfl
theorem k_laws_szUnit : chkFn Try.prog 34 s_laws_szUnit = true := by kernel_rfl
theorem k_spec_Join : chkFn Try.prog 35 s_spec_Join = true := by kernel_rfl
theorem k_laws_toUnit : chkFn Try.prog 36 s_laws_toUnit = true := by kernel_rfl
theorem k_impl_Join : chkFn Try.prog 37 s_impl_Join = true := by kernel_rfl
theorem k_laws_eqUnit : chkFn Try.prog 38 s_laws_eqUnit = true := by kernel_rfl
theorem k_laws_markUnit : chkFn Try.prog 39 s_laws_markUnit = true := by kernel_rfl
theorem k_laws_heldUnit : chkFn Try.prog 40 s_laws_heldUnit = true := by kernel_rfl
theorem k_laws_markText : chkFn Try.prog 57 s_laws_markText = true := by kernel_rfl
theorem k_laws_szIntS : chkFn Try.prog 58 s_laws_szIntS = true := by kernel_rfl
theorem k_laws_toIntS : chkFn Try.prog 64 s_laws_toIntS = true := by kernel_rfl
theorem k_laws_eqIntS : chkFn Try.prog 70 s_laws_eqIntS = true := by kernel_rfl
theorem k_spec_l1In : chkFn Try.prog 73 s_spec_l1In = true := by kernel_rfl
theorem k_impl_within : chkFn Try.prog 75 s_impl_within = true := by kernel_rfl
theorem k_laws_markIntS : chkFn Try.prog 76 s_laws_markIntS = true := by kernel_rfl
theorem k_laws_heldIntS : chkFn Try.prog 79 s_laws_heldIntS = true := by kernel_rfl
theorem k_laws_szTacS : chkFn Try.prog 93 s_laws_szTacS = true := by kernel_rfl
theorem k_spec_UnitOk : chkFn Try.prog 94 s_spec_UnitOk = true := by kernel_rfl
theorem k_spec_l10Copy : chkFn Try.prog 95 s_spec_l10Copy = true := by kernel_rfl
theorem k_spec_l20Place : chkFn Try.prog 96 s_spec_l20Place = true := by kernel_rfl
theorem k_laws_toTacS : chkFn Try.prog 97 s_laws_toTacS = true := by kernel_rfl
theorem k_impl_copyUnit : chkFn Try.prog 98 s_impl_copyUnit = true := by kernel_rfl
theorem k_impl_UnitOk : chkFn Try.prog 99 s_impl_UnitOk = true := by kernel_rfl
theorem k_impl_joiner_place : chkFn Try.prog 100 s_impl_joiner_place = true := by kernel_rfl
theorem k_laws_eqTacS : chkFn Try.prog 101 s_laws_eqTacS = true := by kernel_rfl
theorem k_laws_markTacS : chkFn Try.prog 102 s_laws_markTacS = true := by kernel_rfl
theorem k_laws_heldTacS : chkFn Try.prog 103 s_laws_heldTacS = true := by kernel_rfl
theorem k_spec_WordOk : chkFn Try.prog 122 s_spec_WordOk = true := by kernel_rfl
theorem k_impl_WordOk : chkFn Try.prog 126 s_impl_WordOk = true := by kernel_rfl
theorem k_laws_szTac : chkFn Try.prog 147 s_laws_szTac = true := by kernel_rfl
theorem k_spec_l1Min : chkFn Try.prog 148 s_spec_l1Min = true := by kernel_rfl
theorem k_spec_l10Place : chkFn Try.prog 149 s_spec_l10Place = true := by kernel_rfl
theorem k_spec_l10Label : chkFn Try.prog 150 s_spec_l10Label = true := by kernel_rfl
theorem k_spec_l10Code : chkFn Try.prog 151 s_spec_l10Code = true := by kernel_rfl
theorem k_spec_l20New : chkFn Try.prog 152 s_spec_l20New = true := by kernel_rfl
theorem k_spec_l20Go : chkFn Try.prog 153 s_spec_l20Go = true := by kernel_rfl
theorem k_spec_l20Call : chkFn Try.prog 154 s_spec_l20Call = true := by kernel_rfl
theorem k_spec_l20Select : chkFn Try.prog 155 s_spec_l20Select = true := by kernel_rfl
theorem k_spec_l20Put : chkFn Try.prog 156 s_spec_l20Put = true := by kernel_rfl
theorem k_spec_l10Tac : chkFn Try.prog 157 s_spec_l10Tac = true := by kernel_rfl
theorem k_laws_toTac : chkFn Try.prog 158 s_laws_toTac = true := by kernel_rfl
theorem k_impl_copyTac : chkFn Try.prog 159 s_impl_copyTac = true := by kernel_rfl
theorem k_impl_tacOk : chkFn Try.prog 160 s_impl_tacOk = true := by kernel_rfl
theorem k_impl_labelAt : chkFn Try.prog 161 s_impl_labelAt = true := by kernel_rfl
theorem k_impl_ends : chkFn Try.prog 162 s_impl_ends = true := by kernel_rfl
theorem k_impl_joiner_call : chkFn Try.prog 163 s_impl_joiner_call = true := by kernel_rfl
theorem k_impl_joiner_begin : chkFn Try.prog 164 s_impl_joiner_begin = true := by kernel_rfl
theorem k_impl_joiner_put : chkFn Try.prog 165 s_impl_joiner_put = true := by kernel_rfl
theorem k_impl_joiner_choose : chkFn Try.prog 166 s_impl_joiner_choose = true := by kernel_rfl
theorem k_laws_eqTac : chkFn Try.prog 167 s_laws_eqTac = true := by kernel_rfl
theorem k_slices_ContainsFunc_int_int : chkFn Try.prog 184 s_slices_ContainsFunc_int_int = true := by kernel_rfl
theorem k_spec_l10Has : chkFn Try.prog 194 s_spec_l10Has = true := by kernel_rfl
theorem k_spec_l10Args : chkFn Try.prog 195 s_spec_l10Args = true := by kernel_rfl
theorem k_spec_l10Regs : chkFn Try.prog 196 s_spec_l10Regs = true := by kernel_rfl
theorem k_spec_l20Reg : chkFn Try.prog 197 s_spec_l20Reg = true := by kernel_rfl
theorem k_spec_l20Store : chkFn Try.prog 198 s_spec_l20Store = true := by kernel_rfl
theorem k_spec_l20Num : chkFn Try.prog 199 s_spec_l20Num = true := by kernel_rfl
theorem k_slices_Clone_int_int : chkFn Try.prog 200 s_slices_Clone_int_int = true := by kernel_rfl
theorem k_impl_owns : chkFn Try.prog 201 s_impl_owns = true := by kernel_rfl
theorem k_impl_argsOk : chkFn Try.prog 202 s_impl_argsOk = true := by kernel_rfl
theorem k_impl_owned : chkFn Try.prog 203 s_impl_owned = true := by kernel_rfl
theorem k_impl_Sets : chkFn Try.prog 204 s_impl_Sets = true := by kernel_rfl
theorem k_impl_Uses : chkFn Try.prog 205 s_impl_Uses = true := by kernel_rfl
theorem k_impl_tacOk_1 : chkFn Try.prog 206 s_impl_tacOk_1 = true := by kernel_rfl
theorem k_slices_IndexFunc_impl_Tac_impl_Tac : chkFn Try.prog 207 s_slices_IndexFunc_impl_Tac_impl_Tac = true := by kernel_rfl
theorem k_impl_labelAt_1 : chkFn Try.prog 208 s_impl_labelAt_1 = true := by kernel_rfl
theorem k_impl_joiner_set : chkFn Try.prog 209 s_impl_joiner_set = true := by kernel_rfl
theorem k_impl_joiner_field : chkFn Try.prog 210 s_impl_joiner_field = true := by kernel_rfl
theorem k_impl_joiner_num : chkFn Try.prog 211 s_impl_joiner_num = true := by kernel_rfl
theorem k_slices_IndexFunc_int_int : chkFn Try.prog 229 s_slices_IndexFunc_int_int = true := by kernel_rfl
theorem k_spec_Sets : chkFn Try.prog 235 s_spec_Sets = true := by kernel_rfl
theorem k_spec_Uses : chkFn Try.prog 236 s_spec_Uses = true := by kernel_rfl
theorem k_slices_Contains_byte_byte : chkFn Try.prog 237 s_slices_Contains_byte_byte = true := by kernel_rfl
theorem k_slices_Index_byte_byte : chkFn Try.prog 251 s_slices_Index_byte_byte = true := by kernel_rfl
theorem tabL0_ok : ∀ p ∈ tabL0, chkFn Try.prog p.1 p.2 = true := by
  intro p hp
  simp only [tabL0, List.mem_cons, List.not_mem_nil, or_false] at hp
  rcases hp with rfl | rfl | rfl | rfl | rfl | rfl | rfl | rfl | rfl | rfl | rfl | rfl | rfl | rfl | rfl | rfl | rfl | rfl | rfl | rfl | rfl | rfl | rfl | rfl | rfl | rfl | rfl | rfl | rfl | rfl | rfl | rfl | rfl | rfl | rfl | rfl | rfl | rfl | rfl | rfl
  · exact k_laws_FnExactJoin
  · exact k_laws_szUnit
  · exact k_spec_Join
  · exact k_laws_toUnit
  · exact k_impl_Join
  · exact k_laws_eqUnit
  · exact k_laws_markUnit
  · exact k_laws_heldUnit
  · exact k_laws_markText
  · exact k_laws_szIntS
  · exact k_laws_toIntS
  · exact k_laws_eqIntS
  · exact k_spec_l1In
  · exact k_impl_within
  · exact k_laws_markIntS
  · exact k_laws_heldIntS
  · exact k_laws_szTacS
  · exact k_spec_UnitOk
  · exact k_spec_l10Copy
  · exact k_spec_l20Place
  · exact k_laws_toTacS
  · exact k_impl_copyUnit
  · exact k_impl_UnitOk
  · exact k_impl_joiner_place
  · exact k_laws_eqTacS
  · exact k_laws_markTacS
  · exact k_laws_heldTacS
  · exact k_spec_WordOk
  · exact k_impl_WordOk
  · exact k_laws_szTac
  · exact k_spec_l1Min
  · exact k_spec_l10Place
  · exact k_spec_l10Label
  · exact k_spec_l10Code
  · exact k_spec_l20New
  · exact k_spec_l20Go
  · exact k_spec_l20Call
  · exact k_spec_l20Select
  · exact k_spec_l20Put
  · exact k_spec_l10Tac
theorem tabL1_ok : ∀ p ∈ tabL1, chkFn Try.prog p.1 p.2 = true := by
  intro p hp
  simp only [tabL1, List.mem_cons, List.not_mem_nil, or_false] at hp
  rcases hp with rfl | rfl | rfl | rfl | rfl | rfl | rfl | rfl | rfl | rfl | rfl | rfl | rfl | rfl | rfl | rfl | rfl | rfl | rfl | rfl | rfl | rfl | rfl | rfl | rfl | rfl | rfl | rfl | rfl | rfl | rfl | rfl | rfl | rfl
  · exact k_laws_toTac
  · exact k_impl_copyTac
  · exact k_impl_tacOk
  · exact k_impl_labelAt
  · exact k_impl_ends
  · exact k_impl_joiner_call
  · exact k_impl_joiner_begin
  · exact k_impl_joiner_put
  · exact k_impl_joiner_choose
  · exact k_laws_eqTac
  · exact k_slices_ContainsFunc_int_int
  · exact k_spec_l10Has
  · exact k_spec_l10Args
  · exact k_spec_l10Regs
  · exact k_spec_l20Reg
  · exact k_spec_l20Store
  · exact k_spec_l20Num
  · exact k_slices_Clone_int_int
  · exact k_impl_owns
  · exact k_impl_argsOk
  · exact k_impl_owned
  · exact k_impl_Sets
  · exact k_impl_Uses
  · exact k_impl_tacOk_1
  · exact k_slices_IndexFunc_impl_Tac_impl_Tac
  · exact k_impl_labelAt_1
  · exact k_impl_joiner_set
  · exact k_impl_joiner_field
  · exact k_impl_joiner_num
  · exact k_slices_IndexFunc_int_int
  · exact k_spec_Sets
  · exact k_spec_Uses
  · exact k_slices_Contains_byte_byte
  · exact k_slices_Index_byte_byte
theorem tabL_ok : ∀ p ∈ tabL, chkFn Try.prog p.1 p.2 = true := fun p hp => (List.mem_append.1 hp).elim ((fun p hp => tabL0_ok p hp) p) (tabL1_ok p)
theorem tab_ok : Tab Try.prog tab := fun f s h => by
  unfold tab at h
  rw [map_some_iff] at h
  obtain ⟨p, h1, rfl⟩ := h
  have h2 := List.find?_some h1
  simp only [beq_iff_eq] at h2
  subst h2
  exact tabL_ok p (List.mem_of_find?_eq_some h1)
end Go.Ev.G
