/- The slim code, checked against the given program. Written by gen.py. -/
import Derived.Test.YtonoomibdlhonaaEvTab
import Derived.Test.YtonoomibdlhonaaProg
import Derived.KernelRfl
namespace Go.Ev.G
open Go.Proofs
set_option linter.all false
theorem k_laws_FnExactNoteText : chkFn Try.prog 3 s_laws_FnExactNoteText = true := by kernel_rfl
theorem k_laws_FnExactImageText : chkFn Try.prog 4 s_laws_FnExactImageText = true := by kernel_rfl
theorem k_laws_FnExactPlaceOf : chkFn Try.prog 5 s_laws_FnExactPlaceOf = true := by kernel_rfl
theorem k_laws_FnExactBodyText : chkFn Try.prog 6 s_laws_FnExactBodyText = true := by kernel_rfl
theorem k_laws_FnExactLocked : chkFn Try.prog 7 s_laws_FnExactLocked = true := by kernel_rfl
theorem k_laws_FnExactOnCores : chkFn Try.prog 8 s_laws_FnExactOnCores = true := by kernel_rfl
theorem k_spec_NoteText : chkFn Try.prog 9 s_spec_NoteText = true := by kernel_rfl
theorem k_laws_toNote : chkFn Try.prog 10 s_laws_toNote = true := by kernel_rfl
theorem k_impl_NoteText : chkFn Try.prog 11 s_impl_NoteText = true := by kernel_rfl
theorem k_laws_szInsS : chkFn Try.prog 12 s_laws_szInsS = true := by kernel_rfl
theorem k_spec_ImageText : chkFn Try.prog 13 s_spec_ImageText = true := by kernel_rfl
theorem k_laws_toInsS : chkFn Try.prog 14 s_laws_toInsS = true := by kernel_rfl
theorem k_impl_ImageText : chkFn Try.prog 15 s_impl_ImageText = true := by kernel_rfl
theorem k_laws_eqInsS : chkFn Try.prog 16 s_laws_eqInsS = true := by kernel_rfl
theorem k_laws_szLineS : chkFn Try.prog 17 s_laws_szLineS = true := by kernel_rfl
theorem k_spec_PlaceOf : chkFn Try.prog 18 s_spec_PlaceOf = true := by kernel_rfl
theorem k_laws_toLineS : chkFn Try.prog 19 s_laws_toLineS = true := by kernel_rfl
theorem k_impl_PlaceOf : chkFn Try.prog 20 s_impl_PlaceOf = true := by kernel_rfl
theorem k_laws_eqLineS : chkFn Try.prog 21 s_laws_eqLineS = true := by kernel_rfl
theorem k_laws_szBody : chkFn Try.prog 22 s_laws_szBody = true := by kernel_rfl
theorem k_spec_BodyText : chkFn Try.prog 23 s_spec_BodyText = true := by kernel_rfl
theorem k_laws_toBody : chkFn Try.prog 24 s_laws_toBody = true := by kernel_rfl
theorem k_impl_BodyText : chkFn Try.prog 25 s_impl_BodyText = true := by kernel_rfl
theorem k_laws_eqBody : chkFn Try.prog 26 s_laws_eqBody = true := by kernel_rfl
theorem k_laws_szMachine : chkFn Try.prog 27 s_laws_szMachine = true := by kernel_rfl
theorem k_spec_Locked : chkFn Try.prog 28 s_spec_Locked = true := by kernel_rfl
theorem k_laws_toMachine : chkFn Try.prog 29 s_laws_toMachine = true := by kernel_rfl
theorem k_impl_Locked : chkFn Try.prog 30 s_impl_Locked = true := by kernel_rfl
theorem k_laws_eqMachine : chkFn Try.prog 31 s_laws_eqMachine = true := by kernel_rfl
theorem k_spec_OnCores : chkFn Try.prog 32 s_spec_OnCores = true := by kernel_rfl
theorem k_impl_OnCores : chkFn Try.prog 33 s_impl_OnCores = true := by kernel_rfl
theorem k_laws_eqIntS : chkFn Try.prog 34 s_laws_eqIntS = true := by kernel_rfl
theorem k_laws_markMachine : chkFn Try.prog 35 s_laws_markMachine = true := by kernel_rfl
theorem k_laws_markIntS : chkFn Try.prog 36 s_laws_markIntS = true := by kernel_rfl
theorem k_laws_heldIntS : chkFn Try.prog 37 s_laws_heldIntS = true := by kernel_rfl
theorem k_spec_l1In : chkFn Try.prog 38 s_spec_l1In = true := by kernel_rfl
theorem k_spec_Digits : chkFn Try.prog 39 s_spec_Digits = true := by kernel_rfl
theorem k_impl_within : chkFn Try.prog 40 s_impl_within = true := by kernel_rfl
theorem k_impl_Digits : chkFn Try.prog 41 s_impl_Digits = true := by kernel_rfl
theorem k_laws_toIns : chkFn Try.prog 42 s_laws_toIns = true := by kernel_rfl
theorem k_laws_eqIns : chkFn Try.prog 43 s_laws_eqIns = true := by kernel_rfl
theorem k_laws_szLine : chkFn Try.prog 44 s_laws_szLine = true := by kernel_rfl
theorem k_laws_toLine : chkFn Try.prog 45 s_laws_toLine = true := by kernel_rfl
theorem k_impl_lineAt : chkFn Try.prog 46 s_impl_lineAt = true := by kernel_rfl
theorem k_laws_eqLine : chkFn Try.prog 47 s_laws_eqLine = true := by kernel_rfl
theorem k_laws_szFrameS : chkFn Try.prog 48 s_laws_szFrameS = true := by kernel_rfl
theorem k_laws_toFrameS : chkFn Try.prog 49 s_laws_toFrameS = true := by kernel_rfl
theorem k_laws_eqFrameS : chkFn Try.prog 50 s_laws_eqFrameS = true := by kernel_rfl
theorem k_laws_szIntS : chkFn Try.prog 51 s_laws_szIntS = true := by kernel_rfl
theorem k_laws_szCoreS : chkFn Try.prog 52 s_laws_szCoreS = true := by kernel_rfl
theorem k_laws_szNoteS : chkFn Try.prog 53 s_laws_szNoteS = true := by kernel_rfl
theorem k_laws_toIntS : chkFn Try.prog 54 s_laws_toIntS = true := by kernel_rfl
theorem k_laws_toCoreS : chkFn Try.prog 55 s_laws_toCoreS = true := by kernel_rfl
theorem k_laws_toNoteS : chkFn Try.prog 56 s_laws_toNoteS = true := by kernel_rfl
theorem k_laws_eqCoreS : chkFn Try.prog 57 s_laws_eqCoreS = true := by kernel_rfl
theorem k_laws_eqNoteS : chkFn Try.prog 58 s_laws_eqNoteS = true := by kernel_rfl
theorem k_spec_l26Body : chkFn Try.prog 59 s_spec_l26Body = true := by kernel_rfl
theorem k_impl_bodyOf : chkFn Try.prog 60 s_impl_bodyOf = true := by kernel_rfl
theorem k_laws_markInsS : chkFn Try.prog 61 s_laws_markInsS = true := by kernel_rfl
theorem k_laws_markCoreS : chkFn Try.prog 62 s_laws_markCoreS = true := by kernel_rfl
theorem k_laws_markNoteS : chkFn Try.prog 63 s_laws_markNoteS = true := by kernel_rfl
theorem k_laws_szFrame : chkFn Try.prog 64 s_laws_szFrame = true := by kernel_rfl
theorem k_laws_toFrame : chkFn Try.prog 65 s_laws_toFrame = true := by kernel_rfl
theorem k_laws_eqFrame : chkFn Try.prog 66 s_laws_eqFrame = true := by kernel_rfl
theorem k_laws_szCore : chkFn Try.prog 67 s_laws_szCore = true := by kernel_rfl
theorem k_laws_toCore : chkFn Try.prog 68 s_laws_toCore = true := by kernel_rfl
theorem k_laws_eqCore : chkFn Try.prog 69 s_laws_eqCore = true := by kernel_rfl
theorem k_laws_eqNote : chkFn Try.prog 70 s_laws_eqNote = true := by kernel_rfl
theorem tabL_ok : ∀ p ∈ tabL, chkFn Try.prog p.1 p.2 = true := by
  intro p hp
  simp only [tabL, List.mem_cons, List.not_mem_nil, or_false] at hp
  rcases hp with rfl | rfl | rfl | rfl | rfl | rfl | rfl | rfl | rfl | rfl | rfl | rfl | rfl | rfl | rfl | rfl | rfl | rfl | rfl | rfl | rfl | rfl | rfl | rfl | rfl | rfl | rfl | rfl | rfl | rfl | rfl | rfl | rfl | rfl | rfl | rfl | rfl | rfl | rfl | rfl | rfl | rfl | rfl | rfl | rfl | rfl | rfl | rfl | rfl | rfl | rfl | rfl | rfl | rfl | rfl | rfl | rfl | rfl | rfl | rfl | rfl | rfl | rfl | rfl | rfl | rfl | rfl | rfl
  · exact k_laws_FnExactNoteText
  · exact k_laws_FnExactImageText
  · exact k_laws_FnExactPlaceOf
  · exact k_laws_FnExactBodyText
  · exact k_laws_FnExactLocked
  · exact k_laws_FnExactOnCores
  · exact k_spec_NoteText
  · exact k_laws_toNote
  · exact k_impl_NoteText
  · exact k_laws_szInsS
  · exact k_spec_ImageText
  · exact k_laws_toInsS
  · exact k_impl_ImageText
  · exact k_laws_eqInsS
  · exact k_laws_szLineS
  · exact k_spec_PlaceOf
  · exact k_laws_toLineS
  · exact k_impl_PlaceOf
  · exact k_laws_eqLineS
  · exact k_laws_szBody
  · exact k_spec_BodyText
  · exact k_laws_toBody
  · exact k_impl_BodyText
  · exact k_laws_eqBody
  · exact k_laws_szMachine
  · exact k_spec_Locked
  · exact k_laws_toMachine
  · exact k_impl_Locked
  · exact k_laws_eqMachine
  · exact k_spec_OnCores
  · exact k_impl_OnCores
  · exact k_laws_eqIntS
  · exact k_laws_markMachine
  · exact k_laws_markIntS
  · exact k_laws_heldIntS
  · exact k_spec_l1In
  · exact k_spec_Digits
  · exact k_impl_within
  · exact k_impl_Digits
  · exact k_laws_toIns
  · exact k_laws_eqIns
  · exact k_laws_szLine
  · exact k_laws_toLine
  · exact k_impl_lineAt
  · exact k_laws_eqLine
  · exact k_laws_szFrameS
  · exact k_laws_toFrameS
  · exact k_laws_eqFrameS
  · exact k_laws_szIntS
  · exact k_laws_szCoreS
  · exact k_laws_szNoteS
  · exact k_laws_toIntS
  · exact k_laws_toCoreS
  · exact k_laws_toNoteS
  · exact k_laws_eqCoreS
  · exact k_laws_eqNoteS
  · exact k_spec_l26Body
  · exact k_impl_bodyOf
  · exact k_laws_markInsS
  · exact k_laws_markCoreS
  · exact k_laws_markNoteS
  · exact k_laws_szFrame
  · exact k_laws_toFrame
  · exact k_laws_eqFrame
  · exact k_laws_szCore
  · exact k_laws_toCore
  · exact k_laws_eqCore
  · exact k_laws_eqNote
theorem tab_ok : Tab Try.prog tab := fun f s h => by
  unfold tab at h
  rw [map_some_iff] at h
  obtain ⟨p, h1, rfl⟩ := h
  have h2 := List.find?_some h1
  simp only [beq_iff_eq] at h2
  subst h2
  exact tabL_ok p (List.mem_of_find?_eq_some h1)
end Go.Ev.G
