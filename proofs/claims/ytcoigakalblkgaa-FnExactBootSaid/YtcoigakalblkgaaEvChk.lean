/- The slim code, checked against the given program. Written by gen.py. -/
import Derived.Test.YtcoigakalblkgaaEvTab
import Derived.Test.YtcoigakalblkgaaProg
import Derived.KernelRfl
namespace Go.Ev.G
open Go.Proofs
set_option linter.all false
theorem k_laws_FnExactBoot : chkFn Try.prog 5 s_laws_FnExactBoot = true := by kernel_rfl
theorem k_laws_eqInsS : chkFn Try.prog 13 s_laws_eqInsS = true := by kernel_rfl
theorem k_laws_markInsS : chkFn Try.prog 16 s_laws_markInsS = true := by kernel_rfl
theorem k_laws_heldInsS : chkFn Try.prog 17 s_laws_heldInsS = true := by kernel_rfl
theorem k_laws_eqMachine : chkFn Try.prog 22 s_laws_eqMachine = true := by kernel_rfl
theorem k_laws_szInsS : chkFn Try.prog 23 s_laws_szInsS = true := by kernel_rfl
theorem k_spec_Boot : chkFn Try.prog 24 s_spec_Boot = true := by kernel_rfl
theorem k_laws_toInsS : chkFn Try.prog 25 s_laws_toInsS = true := by kernel_rfl
theorem k_impl_Boot : chkFn Try.prog 26 s_impl_Boot = true := by kernel_rfl
theorem k_laws_markMachine : chkFn Try.prog 27 s_laws_markMachine = true := by kernel_rfl
theorem k_laws_heldMachine : chkFn Try.prog 28 s_laws_heldMachine = true := by kernel_rfl
theorem k_spec_InsOk : chkFn Try.prog 49 s_spec_InsOk = true := by kernel_rfl
theorem k_slices_ContainsFunc_impl_Ins_impl_Ins : chkFn Try.prog 52 s_slices_ContainsFunc_impl_Ins_impl_Ins = true := by kernel_rfl
theorem k_impl_InsOk : chkFn Try.prog 54 s_impl_InsOk = true := by kernel_rfl
theorem k_laws_eqIns : chkFn Try.prog 55 s_laws_eqIns = true := by kernel_rfl
theorem k_spec_MachineOk : chkFn Try.prog 61 s_spec_MachineOk = true := by kernel_rfl
theorem k_impl_MachineOk : chkFn Try.prog 67 s_impl_MachineOk = true := by kernel_rfl
theorem k_laws_eqIntS : chkFn Try.prog 70 s_laws_eqIntS = true := by kernel_rfl
theorem k_laws_eqCoreS : chkFn Try.prog 71 s_laws_eqCoreS = true := by kernel_rfl
theorem k_laws_eqNoteS : chkFn Try.prog 72 s_laws_eqNoteS = true := by kernel_rfl
theorem k_spec_l1In : chkFn Try.prog 73 s_spec_l1In = true := by kernel_rfl
theorem k_laws_toIns : chkFn Try.prog 74 s_laws_toIns = true := by kernel_rfl
theorem k_impl_within : chkFn Try.prog 75 s_impl_within = true := by kernel_rfl
theorem k_laws_markIntS : chkFn Try.prog 76 s_laws_markIntS = true := by kernel_rfl
theorem k_laws_markCoreS : chkFn Try.prog 77 s_laws_markCoreS = true := by kernel_rfl
theorem k_laws_markNoteS : chkFn Try.prog 78 s_laws_markNoteS = true := by kernel_rfl
theorem k_laws_heldIntS : chkFn Try.prog 79 s_laws_heldIntS = true := by kernel_rfl
theorem k_laws_heldCoreS : chkFn Try.prog 80 s_laws_heldCoreS = true := by kernel_rfl
theorem k_laws_heldNoteS : chkFn Try.prog 81 s_laws_heldNoteS = true := by kernel_rfl
theorem k_spec_l2Has : chkFn Try.prog 120 s_spec_l2Has = true := by kernel_rfl
theorem k_spec_l2Field : chkFn Try.prog 121 s_spec_l2Field = true := by kernel_rfl
theorem k_spec_WordOk : chkFn Try.prog 122 s_spec_WordOk = true := by kernel_rfl
theorem k_slices_IndexFunc_impl_Ins_impl_Ins : chkFn Try.prog 123 s_slices_IndexFunc_impl_Ins_impl_Ins = true := by kernel_rfl
theorem k_impl_has : chkFn Try.prog 124 s_impl_has = true := by kernel_rfl
theorem k_impl_isReg : chkFn Try.prog 125 s_impl_isReg = true := by kernel_rfl
theorem k_impl_WordOk : chkFn Try.prog 126 s_impl_WordOk = true := by kernel_rfl
theorem k_spec_l3Words : chkFn Try.prog 128 s_spec_l3Words = true := by kernel_rfl
theorem k_spec_CoreOk : chkFn Try.prog 129 s_spec_CoreOk = true := by kernel_rfl
theorem k_impl_MachineOk_1 : chkFn Try.prog 132 s_impl_MachineOk_1 = true := by kernel_rfl
theorem k_slices_ContainsFunc_impl_Core_impl_Core : chkFn Try.prog 133 s_slices_ContainsFunc_impl_Core_impl_Core = true := by kernel_rfl
theorem k_impl_MachineOk_2 : chkFn Try.prog 134 s_impl_MachineOk_2 = true := by kernel_rfl
theorem k_impl_CoreOk : chkFn Try.prog 135 s_impl_CoreOk = true := by kernel_rfl
theorem k_impl_wordsOk : chkFn Try.prog 136 s_impl_wordsOk = true := by kernel_rfl
theorem k_slices_ContainsFunc_impl_Note_impl_Note : chkFn Try.prog 137 s_slices_ContainsFunc_impl_Note_impl_Note = true := by kernel_rfl
theorem k_impl_MachineOk_3 : chkFn Try.prog 138 s_impl_MachineOk_3 = true := by kernel_rfl
theorem k_laws_eqCore : chkFn Try.prog 139 s_laws_eqCore = true := by kernel_rfl
theorem k_laws_eqNote : chkFn Try.prog 140 s_laws_eqNote = true := by kernel_rfl
theorem k_slices_IndexFunc_impl_Core_impl_Core : chkFn Try.prog 183 s_slices_IndexFunc_impl_Core_impl_Core = true := by kernel_rfl
theorem k_slices_ContainsFunc_int_int : chkFn Try.prog 184 s_slices_ContainsFunc_int_int = true := by kernel_rfl
theorem k_impl_CoreOk_1 : chkFn Try.prog 185 s_impl_CoreOk_1 = true := by kernel_rfl
theorem k_impl_wordsOk_1 : chkFn Try.prog 186 s_impl_wordsOk_1 = true := by kernel_rfl
theorem k_slices_IndexFunc_impl_Note_impl_Note : chkFn Try.prog 187 s_slices_IndexFunc_impl_Note_impl_Note = true := by kernel_rfl
theorem k_slices_IndexFunc_int_int : chkFn Try.prog 229 s_slices_IndexFunc_int_int = true := by kernel_rfl
theorem tabL0_ok : ∀ p ∈ tabL0, chkFn Try.prog p.1 p.2 = true := by
  intro p hp
  simp only [tabL0, List.mem_cons, List.not_mem_nil, or_false] at hp
  rcases hp with rfl | rfl | rfl | rfl | rfl | rfl | rfl | rfl | rfl | rfl | rfl | rfl | rfl | rfl | rfl | rfl | rfl | rfl | rfl | rfl | rfl | rfl | rfl | rfl | rfl | rfl | rfl | rfl | rfl | rfl | rfl | rfl | rfl | rfl | rfl | rfl | rfl | rfl | rfl | rfl
  · exact k_laws_FnExactBoot
  · exact k_laws_eqInsS
  · exact k_laws_markInsS
  · exact k_laws_heldInsS
  · exact k_laws_eqMachine
  · exact k_laws_szInsS
  · exact k_spec_Boot
  · exact k_laws_toInsS
  · exact k_impl_Boot
  · exact k_laws_markMachine
  · exact k_laws_heldMachine
  · exact k_spec_InsOk
  · exact k_slices_ContainsFunc_impl_Ins_impl_Ins
  · exact k_impl_InsOk
  · exact k_laws_eqIns
  · exact k_spec_MachineOk
  · exact k_impl_MachineOk
  · exact k_laws_eqIntS
  · exact k_laws_eqCoreS
  · exact k_laws_eqNoteS
  · exact k_spec_l1In
  · exact k_laws_toIns
  · exact k_impl_within
  · exact k_laws_markIntS
  · exact k_laws_markCoreS
  · exact k_laws_markNoteS
  · exact k_laws_heldIntS
  · exact k_laws_heldCoreS
  · exact k_laws_heldNoteS
  · exact k_spec_l2Has
  · exact k_spec_l2Field
  · exact k_spec_WordOk
  · exact k_slices_IndexFunc_impl_Ins_impl_Ins
  · exact k_impl_has
  · exact k_impl_isReg
  · exact k_impl_WordOk
  · exact k_spec_l3Words
  · exact k_spec_CoreOk
  · exact k_impl_MachineOk_1
  · exact k_slices_ContainsFunc_impl_Core_impl_Core
theorem tabL1_ok : ∀ p ∈ tabL1, chkFn Try.prog p.1 p.2 = true := by
  intro p hp
  simp only [tabL1, List.mem_cons, List.not_mem_nil, or_false] at hp
  rcases hp with rfl | rfl | rfl | rfl | rfl | rfl | rfl | rfl | rfl | rfl | rfl | rfl | rfl
  · exact k_impl_MachineOk_2
  · exact k_impl_CoreOk
  · exact k_impl_wordsOk
  · exact k_slices_ContainsFunc_impl_Note_impl_Note
  · exact k_impl_MachineOk_3
  · exact k_laws_eqCore
  · exact k_laws_eqNote
  · exact k_slices_IndexFunc_impl_Core_impl_Core
  · exact k_slices_ContainsFunc_int_int
  · exact k_impl_CoreOk_1
  · exact k_impl_wordsOk_1
  · exact k_slices_IndexFunc_impl_Note_impl_Note
  · exact k_slices_IndexFunc_int_int
theorem tabL_ok : ∀ p ∈ tabL, chkFn Try.prog p.1 p.2 = true := fun p hp => (List.mem_append.1 hp).elim ((fun p hp => tabL0_ok p hp) p) (tabL1_ok p)
theorem tab_ok : Tab Try.prog tab := fun f s h => by
  unfold tab at h
  rw [map_some_iff] at h
  obtain ⟨p, h1, rfl⟩ := h
  have h2 := List.find?_some h1
  simp only [beq_iff_eq] at h2
  subst h2
  exact tabL_ok p (List.mem_of_find?_eq_some h1)
end Go.Ev.G
