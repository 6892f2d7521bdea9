/-
  The row of the law RankTwice. (printed by rows.py)
-/
import Derived.Test.YtedljgohmlilgaaLawRT
import Derived.Test.YtedljgohmlilgaaOpen2
import Derived.Test.YtedljgohmlilgaaRows
namespace Go.Proofs.Ytedljgohmlilgaa
open Go.ChangeShapes Go.WideShapes Go.ChangeAt Go.RowKit
set_option linter.unusedVariables false

theorem rankTwice_own : ownKnob Try.prog.godebug = none := by kernel_rfl
theorem rankTwice_kids : Kids Try.prog (fun t => t < Try.prog.types.size) := kids_rows (P := Try.prog) (by kernel_rfl) (by kernel_rfl)
theorem rankTwice_full : ∀ t e, t < Try.prog.types.size → Try.prog.underlying t = some (.slice e) → 0 < Try.prog.cellsOf e := slices_full_of Try.prog (by kernel_rfl)

set_option maxRecDepth 100000 in
theorem rankTwice_lifted (os : Os) (started : os.Started) (H : Type) (enc : TypeId × Value → H) :
    ReturnsInHanded {} Try.checked os 4 .any (Rows.rankTwiceSpec.pre6 enc Try.prog Try.f4 Rows.rankTwiceRow.domain false) (Rows.rankTwiceSpec.post enc Try.prog Try.f4 false true false false) := by
  refine returnsInHanded_of_change (C := Try.checked) rankTwice_own started (by kernel_rfl) Try.func4
    (ChangeSpec.witness6 (enc := enc) (C := Try.checked) false ⟨#[], #[.agg #[.int .u8 0, .slice none 0 0], .agg #[.slice none 0 0, .slice none 0 0]], []⟩ 8 (by kernel_rfl) (by kernel_rfl) (by kernel_rfl) (by kernel_rfl)) ?_
  intro W base args ds gs before hval0 hW hcnd _
  have hval : ∀ (j : Nat) t v, Try.f4.params[j]? = some t → args[j]? = some v → Value.okWide Try.prog W .any base t v := hval0
  have hW' := hW
  obtain ⟨p, q, hA0, hV, rfl, hfz, hnd⟩ := hW
  have hA : DataW.TrodAll enc Try.prog W 0 (fun _ => true) true Try.f4.params.toList args.toList ds p := hA0
  have hAk := hA
  rw [Try.params4] at hA hval
  obtain ⟨v0, v1, dat0, dat1, pl0, pl1, rfl, rfl, rfl, h0, h1⟩ := trodAll_two hA
  obtain ⟨rfl, rfl⟩ := trodVars_none hV
  obtain ⟨N, a, es, c, rfl, hN, hes, hesb, _⟩ := open_graph (hval 0 24 v0 rfl rfl) h0
  obtain ⟨a1, b1, xs1, ys1, c1, d1, rfl, hws1, hwt1, hwx1, hwy1⟩ := open_rows2 (hval 1 50 v1 rfl rfl) h1
  clear hA0 hval0
  simp only [List.append_nil] at hW'
  refine (RankTwice_ok N a c es a1 b1 c1 d1 xs1 ys1 W hes hws1 hwt1 hN hesb hwx1 hwy1).mono fun e W' ⟨he, hk⟩ => ?_
  subst he
  have hlt := hW'.lt
  refine ⟨_, rfl, _, _, _, [], pl0 ++ pl1, [], hW', ?_, ?_, ?_, ?_, fun h => by cases h⟩
  · exact trodAll_mk1 (shut_bool Try.underlying4 _)
  · exact DataW.TrodAll.respare rankTwice_kids rankTwice_full (by rw [Try.params4]; decide) (carryAll (by simpa [Rows.rankTwiceSpec] using hAk) (fun p hp => hk.sameAt (hlt p (by simpa using hp)))) (fun p hp => by simpa using hlt p (by simpa using hp))
  · rfl
  · exact hk.keptBut _

theorem rankTwice_holds : Rows.RankTwiceSaid :=
  OpenClaim.holds_of_wide 4 Try.f4 rfl rfl rfl rfl rfl rfl rfl ⟨rfl, rfl, rfl, rfl, rfl⟩ rfl rfl rfl rfl rfl (by kernel_rfl) Try.func4 (by kernel_rfl)
    (of_decide_eq_true (by kernel_rfl)) (by unfold Func.isWrapper; first | (rw [if_pos (by decide +kernel)]; kernel_rfl) | (rw [if_neg (by decide +kernel)]; exact ⟨rfl, rfl⟩))
    (fun os started H enc _ => rankTwice_lifted os started H enc)
#print axioms rankTwice_holds
end Go.Proofs.Ytedljgohmlilgaa
