/- The slim code, checked against the given program. Written by gen.py. -/
import Derived.Test.YtonoomibdlhonabEvTab
import Derived.Test.YtonoomibdlhonabProg
import Derived.KernelRfl
namespace Go.Ev.G
open Go.Proofs
set_option linter.all false
theorem k_laws_FnExactQueue : chkFn Try.prog 3 s_laws_FnExactQueue = true := by kernel_rfl
theorem k_laws_szMachine : chkFn Try.prog 4 s_laws_szMachine = true := by kernel_rfl
theorem k_spec_Queue : chkFn Try.prog 5 s_spec_Queue = true := by kernel_rfl
theorem k_laws_toMachine : chkFn Try.prog 6 s_laws_toMachine = true := by kernel_rfl
theorem k_impl_Queue : chkFn Try.prog 7 s_impl_Queue = true := by kernel_rfl
theorem k_laws_eqIntS : chkFn Try.prog 8 s_laws_eqIntS = true := by kernel_rfl
theorem k_laws_eqMachine : chkFn Try.prog 9 s_laws_eqMachine = true := by kernel_rfl
theorem k_laws_markMachine : chkFn Try.prog 10 s_laws_markMachine = true := by kernel_rfl
theorem k_laws_markIntS : chkFn Try.prog 11 s_laws_markIntS = true := by kernel_rfl
theorem k_laws_heldIntS : chkFn Try.prog 12 s_laws_heldIntS = true := by kernel_rfl
theorem k_laws_szInsS : chkFn Try.prog 13 s_laws_szInsS = true := by kernel_rfl
theorem k_laws_szIntS : chkFn Try.prog 14 s_laws_szIntS = true := by kernel_rfl
theorem k_laws_szCoreS : chkFn Try.prog 15 s_laws_szCoreS = true := by kernel_rfl
theorem k_laws_szNoteS : chkFn Try.prog 16 s_laws_szNoteS = true := by kernel_rfl
theorem k_spec_l26Body : chkFn Try.prog 17 s_spec_l26Body = true := by kernel_rfl
theorem k_laws_toInsS : chkFn Try.prog 18 s_laws_toInsS = true := by kernel_rfl
theorem k_laws_toIntS : chkFn Try.prog 19 s_laws_toIntS = true := by kernel_rfl
theorem k_laws_toCoreS : chkFn Try.prog 20 s_laws_toCoreS = true := by kernel_rfl
theorem k_laws_toNoteS : chkFn Try.prog 21 s_laws_toNoteS = true := by kernel_rfl
theorem k_impl_bodyOf : chkFn Try.prog 22 s_impl_bodyOf = true := by kernel_rfl
theorem k_laws_eqInsS : chkFn Try.prog 23 s_laws_eqInsS = true := by kernel_rfl
theorem k_laws_eqCoreS : chkFn Try.prog 24 s_laws_eqCoreS = true := by kernel_rfl
theorem k_laws_eqNoteS : chkFn Try.prog 25 s_laws_eqNoteS = true := by kernel_rfl
theorem k_laws_markInsS : chkFn Try.prog 26 s_laws_markInsS = true := by kernel_rfl
theorem k_laws_markCoreS : chkFn Try.prog 27 s_laws_markCoreS = true := by kernel_rfl
theorem k_laws_markNoteS : chkFn Try.prog 28 s_laws_markNoteS = true := by kernel_rfl
theorem k_laws_szCore : chkFn Try.prog 29 s_laws_szCore = true := by kernel_rfl
theorem k_laws_toIns : chkFn Try.prog 30 s_laws_toIns = true := by kernel_rfl
theorem k_laws_toCore : chkFn Try.prog 31 s_laws_toCore = true := by kernel_rfl
theorem k_laws_toNote : chkFn Try.prog 32 s_laws_toNote = true := by kernel_rfl
theorem k_laws_eqIns : chkFn Try.prog 33 s_laws_eqIns = true := by kernel_rfl
theorem k_laws_eqCore : chkFn Try.prog 34 s_laws_eqCore = true := by kernel_rfl
theorem k_laws_eqNote : chkFn Try.prog 35 s_laws_eqNote = true := by kernel_rfl
theorem tabL_ok : ∀ p ∈ tabL, chkFn Try.prog p.1 p.2 = true := by
  intro p hp
  simp only [tabL, List.mem_cons, List.not_mem_nil, or_false] at hp
  rcases hp with rfl | rfl | rfl | rfl | rfl | rfl | rfl | rfl | rfl | rfl | rfl | rfl | rfl | rfl | rfl | rfl | rfl | rfl | rfl | rfl | rfl | rfl | rfl | rfl | rfl | rfl | rfl | rfl | rfl | rfl | rfl | rfl | rfl
  · exact k_laws_FnExactQueue
  · exact k_laws_szMachine
  · exact k_spec_Queue
  · exact k_laws_toMachine
  · exact k_impl_Queue
  · exact k_laws_eqIntS
  · exact k_laws_eqMachine
  · exact k_laws_markMachine
  · exact k_laws_markIntS
  · exact k_laws_heldIntS
  · exact k_laws_szInsS
  · exact k_laws_szIntS
  · exact k_laws_szCoreS
  · exact k_laws_szNoteS
  · exact k_spec_l26Body
  · exact k_laws_toInsS
  · exact k_laws_toIntS
  · exact k_laws_toCoreS
  · exact k_laws_toNoteS
  · exact k_impl_bodyOf
  · exact k_laws_eqInsS
  · exact k_laws_eqCoreS
  · exact k_laws_eqNoteS
  · exact k_laws_markInsS
  · exact k_laws_markCoreS
  · exact k_laws_markNoteS
  · exact k_laws_szCore
  · exact k_laws_toIns
  · exact k_laws_toCore
  · exact k_laws_toNote
  · exact k_laws_eqIns
  · exact k_laws_eqCore
  · exact k_laws_eqNote
theorem tab_ok : Tab Try.prog tab := fun f s h => by
  unfold tab at h
  rw [map_some_iff] at h
  obtain ⟨p, h1, rfl⟩ := h
  have h2 := List.find?_some h1
  simp only [beq_iff_eq] at h2
  subst h2
  exact tabL_ok p (List.mem_of_find?_eq_some h1)
end Go.Ev.G
