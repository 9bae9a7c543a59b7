/- The slim code, checked against the given program. Written by gen.py. -/
import Derived.Test.YtcoigakalblkgaaEvTab
import Derived.Test.YtcoigakalblkgaaProg
import Derived.KernelRfl
namespace Go.Ev.G
open Go.Proofs
set_option linter.all false
theorem k_laws_FnExactLink : chkFn Try.prog 3 s_laws_FnExactLink = true := by kernel_rfl
theorem k_laws_szLineS : chkFn Try.prog 9 s_laws_szLineS = true := by kernel_rfl
theorem k_spec_Link : chkFn Try.prog 10 s_spec_Link = true := by kernel_rfl
theorem k_laws_toLineS : chkFn Try.prog 11 s_laws_toLineS = true := by kernel_rfl
theorem k_impl_Link : chkFn Try.prog 12 s_impl_Link = true := by kernel_rfl
theorem k_laws_eqInsS : chkFn Try.prog 13 s_laws_eqInsS = true := by kernel_rfl
theorem k_laws_eqLineS : chkFn Try.prog 14 s_laws_eqLineS = true := by kernel_rfl
theorem k_laws_markLineS : chkFn Try.prog 15 s_laws_markLineS = true := by kernel_rfl
theorem k_laws_markInsS : chkFn Try.prog 16 s_laws_markInsS = true := by kernel_rfl
theorem k_laws_heldInsS : chkFn Try.prog 17 s_laws_heldInsS = true := by kernel_rfl
theorem k_laws_szLine : chkFn Try.prog 46 s_laws_szLine = true := by kernel_rfl
theorem k_spec_l24Twice : chkFn Try.prog 47 s_spec_l24Twice = true := by kernel_rfl
theorem k_spec_PlaceOf : chkFn Try.prog 48 s_spec_PlaceOf = true := by kernel_rfl
theorem k_spec_InsOk : chkFn Try.prog 49 s_spec_InsOk = true := by kernel_rfl
theorem k_laws_toLine : chkFn Try.prog 50 s_laws_toLine = true := by kernel_rfl
theorem k_impl_lineAt : chkFn Try.prog 51 s_impl_lineAt = true := by kernel_rfl
theorem k_slices_ContainsFunc_impl_Ins_impl_Ins : chkFn Try.prog 52 s_slices_ContainsFunc_impl_Ins_impl_Ins = true := by kernel_rfl
theorem k_impl_Link_1 : chkFn Try.prog 53 s_impl_Link_1 = true := by kernel_rfl
theorem k_impl_InsOk : chkFn Try.prog 54 s_impl_InsOk = true := by kernel_rfl
theorem k_laws_eqIns : chkFn Try.prog 55 s_laws_eqIns = true := by kernel_rfl
theorem k_laws_eqLine : chkFn Try.prog 56 s_laws_eqLine = true := by kernel_rfl
theorem k_laws_markText : chkFn Try.prog 57 s_laws_markText = true := by kernel_rfl
theorem k_spec_l1In : chkFn Try.prog 73 s_spec_l1In = true := by kernel_rfl
theorem k_laws_toIns : chkFn Try.prog 74 s_laws_toIns = true := by kernel_rfl
theorem k_impl_within : chkFn Try.prog 75 s_impl_within = true := by kernel_rfl
theorem k_spec_l2Has : chkFn Try.prog 120 s_spec_l2Has = true := by kernel_rfl
theorem k_spec_l2Field : chkFn Try.prog 121 s_spec_l2Field = true := by kernel_rfl
theorem k_spec_WordOk : chkFn Try.prog 122 s_spec_WordOk = true := by kernel_rfl
theorem k_slices_IndexFunc_impl_Ins_impl_Ins : chkFn Try.prog 123 s_slices_IndexFunc_impl_Ins_impl_Ins = true := by kernel_rfl
theorem k_impl_has : chkFn Try.prog 124 s_impl_has = true := by kernel_rfl
theorem k_impl_isReg : chkFn Try.prog 125 s_impl_isReg = true := by kernel_rfl
theorem k_impl_WordOk : chkFn Try.prog 126 s_impl_WordOk = true := by kernel_rfl
theorem tabL0_ok : ∀ p ∈ tabL0, chkFn Try.prog p.1 p.2 = true := by
  intro p hp
  simp only [tabL0, List.mem_cons, List.not_mem_nil, or_false] at hp
  rcases hp with rfl | rfl | rfl | rfl | rfl | rfl | rfl | rfl | rfl | rfl | rfl | rfl | rfl | rfl | rfl | rfl | rfl | rfl | rfl | rfl | rfl | rfl | rfl | rfl | rfl | rfl | rfl | rfl | rfl | rfl | rfl | rfl
  · exact k_laws_FnExactLink
  · exact k_laws_szLineS
  · exact k_spec_Link
  · exact k_laws_toLineS
  · exact k_impl_Link
  · exact k_laws_eqInsS
  · exact k_laws_eqLineS
  · exact k_laws_markLineS
  · exact k_laws_markInsS
  · exact k_laws_heldInsS
  · exact k_laws_szLine
  · exact k_spec_l24Twice
  · exact k_spec_PlaceOf
  · exact k_spec_InsOk
  · exact k_laws_toLine
  · exact k_impl_lineAt
  · exact k_slices_ContainsFunc_impl_Ins_impl_Ins
  · exact k_impl_Link_1
  · exact k_impl_InsOk
  · exact k_laws_eqIns
  · exact k_laws_eqLine
  · exact k_laws_markText
  · exact k_spec_l1In
  · exact k_laws_toIns
  · exact k_impl_within
  · exact k_spec_l2Has
  · exact k_spec_l2Field
  · exact k_spec_WordOk
  · exact k_slices_IndexFunc_impl_Ins_impl_Ins
  · exact k_impl_has
  · exact k_impl_isReg
  · exact k_impl_WordOk
theorem tabL_ok : ∀ p ∈ tabL, chkFn Try.prog p.1 p.2 = true := fun p hp => tabL0_ok p hp
theorem tab_ok : Tab Try.prog tab := fun f s h => by
  unfold tab at h
  rw [map_some_iff] at h
  obtain ⟨p, h1, rfl⟩ := h
  have h2 := List.find?_some h1
  simp only [beq_iff_eq] at h2
  subst h2
  exact tabL_ok p (List.mem_of_find?_eq_some h1)
end Go.Ev.G
