/-
  The row of the law KernelsParts. (printed by rows.py)
-/
import Derived.Test.YtedljgohmlilgaaLawKP
import Derived.Test.YtedljgohmlilgaaGOpen
import Derived.Test.YtedljgohmlilgaaRows
namespace Go.Proofs.Ytedljgohmlilgaa
open Go.ChangeShapes Go.WideShapes Go.ChangeAt Go.RowKit
set_option linter.unusedVariables false

theorem kernelsParts_own : ownKnob Try.prog.godebug = none := by kernel_rfl
theorem kernelsParts_kids : Kids Try.prog (fun t => t < Try.prog.types.size) := kids_rows (P := Try.prog) (by kernel_rfl) (by kernel_rfl)
theorem kernelsParts_full : ∀ t e, t < Try.prog.types.size → Try.prog.underlying t = some (.slice e) → 0 < Try.prog.cellsOf e := slices_full_of Try.prog (by kernel_rfl)

set_option maxRecDepth 100000 in
theorem kernelsParts_lifted (os : Os) (started : os.Started) (H : Type) (enc : TypeId × Value → H) :
    ReturnsInHanded {} Try.checked os 11 .any (Rows.kernelsPartsSpec.pre6 enc Try.prog Try.f11 Rows.kernelsPartsRow.domain false) (Rows.kernelsPartsSpec.post enc Try.prog Try.f11 false true false false) := by
  refine returnsInHanded_of_change (C := Try.checked) kernelsParts_own started (by kernel_rfl) Try.func11
    (ChangeSpec.witness6 (enc := enc) (C := Try.checked) false ⟨#[], #[.agg #[.int .u8 0, .slice none 0 0], .agg #[.int .u8 0, .int .u8 0, .int .u8 0, .int .u16 0], .agg #[.int .u8 0, .int .u8 0]], []⟩ 8 (by kernel_rfl) (by kernel_rfl) (by kernel_rfl) (by kernel_rfl)) ?_
  intro W base args ds gs before hval0 hW hcnd _
  have hval : ∀ (j : Nat) t v, Try.f11.params[j]? = some t → args[j]? = some v → Value.okWide Try.prog W .any base t v := hval0
  have hW' := hW
  obtain ⟨p, q, hA0, hV, rfl, hfz, hnd⟩ := hW
  have hA : DataW.TrodAll enc Try.prog W 0 (fun _ => true) true Try.f11.params.toList args.toList ds p := hA0
  have hAk := hA
  rw [Try.params11] at hA hval
  obtain ⟨v0, v1, v2, dat0, dat1, dat2, pl0, pl1, pl2, rfl, rfl, rfl, h0, h1, h2⟩ := trodAll_three hA
  obtain ⟨rfl, rfl⟩ := trodVars_none hV
  obtain ⟨N, a, es, c, rfl, hN, hes, hesb, _⟩ := open_graph (hval 0 24 v0 rfl rfl) h0
  obtain ⟨K1, A1, P1, D1, rfl, hK1, hA1, hP1, hD1⟩ := open_ask (hval 1 85 v1 rfl rfl) h1
  obtain ⟨x2, y2, rfl, hx2, hy2⟩ := open_two (hval 2 58 v2 rfl rfl) h2
  clear hA0 hval0
  simp only [List.append_nil] at hW'
  refine (KernelsParts_ok N a c es K1 A1 P1 D1 x2 y2 W hes hN hesb hK1 hA1 hP1 hD1 hx2 hy2).mono fun e W' ⟨he, hk⟩ => ?_
  subst he
  have hlt := hW'.lt
  refine ⟨_, rfl, _, _, _, [], pl0 ++ pl1 ++ pl2, [], hW', ?_, ?_, ?_, ?_, fun h => by cases h⟩
  · exact trodAll_mk1 (shut_bool Try.underlying4 _)
  · exact DataW.TrodAll.respare kernelsParts_kids kernelsParts_full (by rw [Try.params11]; decide) (carryAll (by simpa [Rows.kernelsPartsSpec] using hAk) (fun p hp => hk.sameAt (hlt p (by simpa using hp)))) (fun p hp => by simpa using hlt p (by simpa using hp))
  · rfl
  · exact hk.keptBut _

theorem kernelsParts_holds : Rows.KernelsPartsSaid :=
  OpenClaim.holds_of_wide 11 Try.f11 rfl rfl rfl rfl rfl rfl rfl ⟨rfl, rfl, rfl, rfl, rfl⟩ rfl rfl rfl rfl rfl (by kernel_rfl) Try.func11 (by kernel_rfl)
    (of_decide_eq_true (by kernel_rfl)) (by unfold Func.isWrapper; first | (rw [if_pos (by decide +kernel)]; kernel_rfl) | (rw [if_neg (by decide +kernel)]; exact ⟨rfl, rfl⟩))
    (fun os started H enc _ => kernelsParts_lifted os started H enc)
#print axioms kernelsParts_holds
end Go.Proofs.Ytedljgohmlilgaa
