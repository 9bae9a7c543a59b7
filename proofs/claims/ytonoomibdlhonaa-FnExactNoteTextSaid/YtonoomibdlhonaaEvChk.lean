/- The slim code, checked against the given program. Written by gen.py. -/
import Derived.Test.YtonoomibdlhonaaEvTab
import Derived.Test.YtonoomibdlhonaaProg
import Derived.KernelRfl
namespace Go.Ev.G
open Go.Proofs
set_option linter.all false
theorem k_laws_FnExactNoteText : chkFn Try.prog 3 s_laws_FnExactNoteText = true := by kernel_rfl
theorem k_spec_NoteText : chkFn Try.prog 9 s_spec_NoteText = true := by kernel_rfl
theorem k_laws_toNote : chkFn Try.prog 10 s_laws_toNote = true := by kernel_rfl
theorem k_impl_NoteText : chkFn Try.prog 11 s_impl_NoteText = true := by kernel_rfl
theorem k_spec_l1In : chkFn Try.prog 38 s_spec_l1In = true := by kernel_rfl
theorem k_spec_Digits : chkFn Try.prog 39 s_spec_Digits = true := by kernel_rfl
theorem k_impl_within : chkFn Try.prog 40 s_impl_within = true := by kernel_rfl
theorem k_impl_Digits : chkFn Try.prog 41 s_impl_Digits = true := by kernel_rfl
theorem tabL_ok : ∀ p ∈ tabL, chkFn Try.prog p.1 p.2 = true := by
  intro p hp
  simp only [tabL, List.mem_cons, List.not_mem_nil, or_false] at hp
  rcases hp with rfl | rfl | rfl | rfl | rfl | rfl | rfl | rfl
  · exact k_laws_FnExactNoteText
  · exact k_spec_NoteText
  · exact k_laws_toNote
  · exact k_impl_NoteText
  · exact k_spec_l1In
  · exact k_spec_Digits
  · exact k_impl_within
  · exact k_impl_Digits
theorem tab_ok : Tab Try.prog tab := fun f s h => by
  unfold tab at h
  rw [map_some_iff] at h
  obtain ⟨p, h1, rfl⟩ := h
  have h2 := List.find?_some h1
  simp only [beq_iff_eq] at h2
  subst h2
  exact tabL_ok p (List.mem_of_find?_eq_some h1)
end Go.Ev.G
