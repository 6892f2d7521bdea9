/-
  The row of the law LabelsWhole. (printed by rows.py)
-/
import Derived.Test.YtedljgohmlilgaaLawLW
import Derived.Test.YtedljgohmlilgaaGOpen
import Derived.Test.YtedljgohmlilgaaRows
namespace Go.Proofs.Ytedljgohmlilgaa
open Go.ChangeShapes Go.WideShapes Go.ChangeAt Go.RowKit
set_option linter.unusedVariables false

theorem labelsWhole_own : ownKnob Try.prog.godebug = none := by kernel_rfl
theorem labelsWhole_kids : Kids Try.prog (fun t => t < Try.prog.types.size) := kids_rows (P := Try.prog) (by kernel_rfl) (by kernel_rfl)
theorem labelsWhole_full : ∀ t e, t < Try.prog.types.size → Try.prog.underlying t = some (.slice e) → 0 < Try.prog.cellsOf e := slices_full_of Try.prog (by kernel_rfl)

set_option maxRecDepth 100000 in
theorem labelsWhole_lifted (os : Os) (started : os.Started) (H : Type) (enc : TypeId × Value → H) :
    ReturnsInHanded {} Try.checked os 13 .any (Rows.labelsWholeSpec.pre6 enc Try.prog Try.f13 Rows.labelsWholeRow.domain false) (Rows.labelsWholeSpec.post enc Try.prog Try.f13 false true false false) := by
  refine returnsInHanded_of_change (C := Try.checked) labelsWhole_own started (by kernel_rfl) Try.func13
    (ChangeSpec.witness6 (enc := enc) (C := Try.checked) false ⟨#[], #[.agg #[.int .u8 0, .slice none 0 0], .agg #[.int .u8 0, .int .u8 0, .slice none 0 0, .slice none 0 0]], []⟩ 8 (by kernel_rfl) (by kernel_rfl) (by kernel_rfl) (by kernel_rfl)) ?_
  intro W base args ds gs before hval0 hW hcnd _
  have hval : ∀ (j : Nat) t v, Try.f13.params[j]? = some t → args[j]? = some v → Value.okWide Try.prog W .any base t v := hval0
  have hW' := hW
  obtain ⟨p, q, hA0, hV, rfl, hfz, hnd⟩ := hW
  have hA : DataW.TrodAll enc Try.prog W 0 (fun _ => true) true Try.f13.params.toList args.toList ds p := hA0
  have hAk := hA
  rw [Try.params13] at hA hval
  obtain ⟨v0, v1, dat0, dat1, pl0, pl1, rfl, rfl, rfl, h0, h1⟩ := trodAll_two hA
  obtain ⟨rfl, rfl⟩ := trodVars_none hV
  obtain ⟨N, a, es, c, rfl, hN, hes, hesb, _⟩ := open_graph (hval 0 24 v0 rfl rfl) h0
  obtain ⟨M1, A1, a1, b1, bs1, ms1, c1, d1, rfl, hM1, hA1, hbs1, hms1, hbb1, hmm1, hbl1, hml1⟩ := open_trip (hval 1 62 v1 rfl rfl) h1
  clear hA0 hval0
  simp only [List.append_nil] at hW'
  refine (LabelsWhole_ok N a c es M1 A1 a1 b1 c1 d1 bs1 ms1 W hes hbs1 hms1 hN hesb hM1 hA1 hbb1 hmm1 hbl1 hml1).mono fun e W' ⟨he, hk⟩ => ?_
  subst he
  have hlt := hW'.lt
  refine ⟨_, rfl, _, _, _, [], pl0 ++ pl1, [], hW', ?_, ?_, ?_, ?_, fun h => by cases h⟩
  · exact trodAll_mk1 (shut_bool Try.underlying4 _)
  · exact DataW.TrodAll.respare labelsWhole_kids labelsWhole_full (by rw [Try.params13]; decide) (carryAll (by simpa [Rows.labelsWholeSpec] using hAk) (fun p hp => hk.sameAt (hlt p (by simpa using hp)))) (fun p hp => by simpa using hlt p (by simpa using hp))
  · rfl
  · exact hk.keptBut _

theorem labelsWhole_holds : Rows.LabelsWholeSaid :=
  OpenClaim.holds_of_wide 13 Try.f13 rfl rfl rfl rfl rfl rfl rfl ⟨rfl, rfl, rfl, rfl, rfl⟩ rfl rfl rfl rfl rfl (by kernel_rfl) Try.func13 (by kernel_rfl)
    (of_decide_eq_true (by kernel_rfl)) (by unfold Func.isWrapper; first | (rw [if_pos (by decide +kernel)]; kernel_rfl) | (rw [if_neg (by decide +kernel)]; exact ⟨rfl, rfl⟩))
    (fun os started H enc _ => labelsWhole_lifted os started H enc)
#print axioms labelsWhole_holds
end Go.Proofs.Ytedljgohmlilgaa
