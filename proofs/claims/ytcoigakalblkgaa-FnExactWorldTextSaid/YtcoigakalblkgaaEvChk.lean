/- The slim code, checked against the given program. Written by gen.py. -/
import Derived.Test.YtcoigakalblkgaaEvTab
import Derived.Test.YtcoigakalblkgaaProg
import Derived.KernelRfl
namespace Go.Ev.G
open Go.Proofs
set_option linter.all false
theorem k_laws_FnExactWorldText : chkFn Try.prog 6 s_laws_FnExactWorldText = true := by kernel_rfl
theorem k_laws_szWorld : chkFn Try.prog 29 s_laws_szWorld = true := by kernel_rfl
theorem k_spec_WorldText : chkFn Try.prog 30 s_spec_WorldText = true := by kernel_rfl
theorem k_laws_toWorld : chkFn Try.prog 31 s_laws_toWorld = true := by kernel_rfl
theorem k_impl_WorldText : chkFn Try.prog 32 s_impl_WorldText = true := by kernel_rfl
theorem k_laws_eqWorld : chkFn Try.prog 33 s_laws_eqWorld = true := by kernel_rfl
theorem k_laws_szUnit : chkFn Try.prog 34 s_laws_szUnit = true := by kernel_rfl
theorem k_laws_toUnit : chkFn Try.prog 36 s_laws_toUnit = true := by kernel_rfl
theorem k_laws_eqUnit : chkFn Try.prog 38 s_laws_eqUnit = true := by kernel_rfl
theorem k_laws_szIntS : chkFn Try.prog 58 s_laws_szIntS = true := by kernel_rfl
theorem k_spec_Digits : chkFn Try.prog 62 s_spec_Digits = true := by kernel_rfl
theorem k_spec_l28Out : chkFn Try.prog 63 s_spec_l28Out = true := by kernel_rfl
theorem k_laws_toIntS : chkFn Try.prog 64 s_laws_toIntS = true := by kernel_rfl
theorem k_impl_Digits : chkFn Try.prog 68 s_impl_Digits = true := by kernel_rfl
theorem k_impl_outText : chkFn Try.prog 69 s_impl_outText = true := by kernel_rfl
theorem k_laws_eqIntS : chkFn Try.prog 70 s_laws_eqIntS = true := by kernel_rfl
theorem k_laws_szUnitS : chkFn Try.prog 82 s_laws_szUnitS = true := by kernel_rfl
theorem k_laws_szBodyS : chkFn Try.prog 83 s_laws_szBodyS = true := by kernel_rfl
theorem k_laws_szChanS : chkFn Try.prog 84 s_laws_szChanS = true := by kernel_rfl
theorem k_spec_BodyText : chkFn Try.prog 85 s_spec_BodyText = true := by kernel_rfl
theorem k_laws_toUnitS : chkFn Try.prog 86 s_laws_toUnitS = true := by kernel_rfl
theorem k_laws_toBodyS : chkFn Try.prog 87 s_laws_toBodyS = true := by kernel_rfl
theorem k_laws_toChanS : chkFn Try.prog 88 s_laws_toChanS = true := by kernel_rfl
theorem k_impl_BodyText : chkFn Try.prog 89 s_impl_BodyText = true := by kernel_rfl
theorem k_laws_eqUnitS : chkFn Try.prog 90 s_laws_eqUnitS = true := by kernel_rfl
theorem k_laws_eqBodyS : chkFn Try.prog 91 s_laws_eqBodyS = true := by kernel_rfl
theorem k_laws_eqChanS : chkFn Try.prog 92 s_laws_eqChanS = true := by kernel_rfl
theorem k_laws_szTacS : chkFn Try.prog 93 s_laws_szTacS = true := by kernel_rfl
theorem k_laws_toTacS : chkFn Try.prog 97 s_laws_toTacS = true := by kernel_rfl
theorem k_laws_eqTacS : chkFn Try.prog 101 s_laws_eqTacS = true := by kernel_rfl
theorem k_laws_szBody : chkFn Try.prog 141 s_laws_szBody = true := by kernel_rfl
theorem k_laws_szChan : chkFn Try.prog 142 s_laws_szChan = true := by kernel_rfl
theorem k_laws_toBody : chkFn Try.prog 143 s_laws_toBody = true := by kernel_rfl
theorem k_laws_toChan : chkFn Try.prog 144 s_laws_toChan = true := by kernel_rfl
theorem k_laws_eqBody : chkFn Try.prog 145 s_laws_eqBody = true := by kernel_rfl
theorem k_laws_eqChan : chkFn Try.prog 146 s_laws_eqChan = true := by kernel_rfl
theorem k_laws_szTac : chkFn Try.prog 147 s_laws_szTac = true := by kernel_rfl
theorem k_laws_toTac : chkFn Try.prog 158 s_laws_toTac = true := by kernel_rfl
theorem k_laws_eqTac : chkFn Try.prog 167 s_laws_eqTac = true := by kernel_rfl
theorem k_laws_szFrameS : chkFn Try.prog 188 s_laws_szFrameS = true := by kernel_rfl
theorem k_laws_szWaitS : chkFn Try.prog 189 s_laws_szWaitS = true := by kernel_rfl
theorem k_laws_toFrameS : chkFn Try.prog 190 s_laws_toFrameS = true := by kernel_rfl
theorem k_laws_toWaitS : chkFn Try.prog 191 s_laws_toWaitS = true := by kernel_rfl
theorem k_laws_eqFrameS : chkFn Try.prog 192 s_laws_eqFrameS = true := by kernel_rfl
theorem k_laws_eqWaitS : chkFn Try.prog 193 s_laws_eqWaitS = true := by kernel_rfl
theorem k_laws_szFrame : chkFn Try.prog 230 s_laws_szFrame = true := by kernel_rfl
theorem k_laws_toFrame : chkFn Try.prog 231 s_laws_toFrame = true := by kernel_rfl
theorem k_laws_toWait : chkFn Try.prog 232 s_laws_toWait = true := by kernel_rfl
theorem k_laws_eqFrame : chkFn Try.prog 233 s_laws_eqFrame = true := by kernel_rfl
theorem k_laws_eqWait : chkFn Try.prog 234 s_laws_eqWait = true := by kernel_rfl
theorem tabL0_ok : ∀ p ∈ tabL0, chkFn Try.prog p.1 p.2 = true := by
  intro p hp
  simp only [tabL0, List.mem_cons, List.not_mem_nil, or_false] at hp
  rcases hp with rfl | rfl | rfl | rfl | rfl | rfl | rfl | rfl | rfl | rfl | rfl | rfl | rfl | rfl | rfl | rfl | rfl | rfl | rfl | rfl | rfl | rfl | rfl | rfl | rfl | rfl | rfl | rfl | rfl | rfl | rfl | rfl | rfl | rfl | rfl | rfl | rfl | rfl | rfl | rfl
  · exact k_laws_FnExactWorldText
  · exact k_laws_szWorld
  · exact k_spec_WorldText
  · exact k_laws_toWorld
  · exact k_impl_WorldText
  · exact k_laws_eqWorld
  · exact k_laws_szUnit
  · exact k_laws_toUnit
  · exact k_laws_eqUnit
  · exact k_laws_szIntS
  · exact k_spec_Digits
  · exact k_spec_l28Out
  · exact k_laws_toIntS
  · exact k_impl_Digits
  · exact k_impl_outText
  · exact k_laws_eqIntS
  · exact k_laws_szUnitS
  · exact k_laws_szBodyS
  · exact k_laws_szChanS
  · exact k_spec_BodyText
  · exact k_laws_toUnitS
  · exact k_laws_toBodyS
  · exact k_laws_toChanS
  · exact k_impl_BodyText
  · exact k_laws_eqUnitS
  · exact k_laws_eqBodyS
  · exact k_laws_eqChanS
  · exact k_laws_szTacS
  · exact k_laws_toTacS
  · exact k_laws_eqTacS
  · exact k_laws_szBody
  · exact k_laws_szChan
  · exact k_laws_toBody
  · exact k_laws_toChan
  · exact k_laws_eqBody
  · exact k_laws_eqChan
  · exact k_laws_szTac
  · exact k_laws_toTac
  · exact k_laws_eqTac
  · exact k_laws_szFrameS
theorem tabL1_ok : ∀ p ∈ tabL1, chkFn Try.prog p.1 p.2 = true := by
  intro p hp
  simp only [tabL1, List.mem_cons, List.not_mem_nil, or_false] at hp
  rcases hp with rfl | rfl | rfl | rfl | rfl | rfl | rfl | rfl | rfl | rfl
  · exact k_laws_szWaitS
  · exact k_laws_toFrameS
  · exact k_laws_toWaitS
  · exact k_laws_eqFrameS
  · exact k_laws_eqWaitS
  · exact k_laws_szFrame
  · exact k_laws_toFrame
  · exact k_laws_toWait
  · exact k_laws_eqFrame
  · exact k_laws_eqWait
theorem tabL_ok : ∀ p ∈ tabL, chkFn Try.prog p.1 p.2 = true := fun p hp => (List.mem_append.1 hp).elim ((fun p hp => tabL0_ok p hp) p) (tabL1_ok p)
theorem tab_ok : Tab Try.prog tab := fun f s h => by
  unfold tab at h
  rw [map_some_iff] at h
  obtain ⟨p, h1, rfl⟩ := h
  have h2 := List.find?_some h1
  simp only [beq_iff_eq] at h2
  subst h2
  exact tabL_ok p (List.mem_of_find?_eq_some h1)
end Go.Ev.G
