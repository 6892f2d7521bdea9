/-
  The row of the law KernelsTruth. (printed by rows.py)
-/
import Derived.Test.YtedljgohmlilgaaGreatLawKT
import Derived.Test.YtedljgohmlilgaaGreatGOpen
import Derived.Test.YtedljgohmlilgaaGreatRows
namespace Go.Proofs.YtedljgohmlilgaaGreat
open Go.ChangeShapes Go.WideShapes Go.ChangeAt Go.RowKit
set_option linter.unusedVariables false

theorem kernelsTruth_own : ownKnob Tryz.prog.godebug = none := by kernel_rfl
theorem kernelsTruth_kids : Kids Tryz.prog (fun t => t < Tryz.prog.types.size) := kids_rows (P := Tryz.prog) (by kernel_rfl) (by kernel_rfl)
theorem kernelsTruth_full : ∀ t e, t < Tryz.prog.types.size → Tryz.prog.underlying t = some (.slice e) → 0 < Tryz.prog.cellsOf e := slices_full_of Tryz.prog (by kernel_rfl)

set_option maxRecDepth 100000 in
theorem kernelsTruth_lifted (os : Os) (started : os.Started) (H : Type) (enc : TypeId × Value → H) :
    ReturnsInHanded {} Tryz.checked os 3 .any (Rows.kernelsTruthSpec.pre6 enc Tryz.prog Tryz.f3 Rows.kernelsTruthRow.domain false) (Rows.kernelsTruthSpec.post enc Tryz.prog Tryz.f3 false true false false) := by
  refine returnsInHanded_of_change (C := Tryz.checked) kernelsTruth_own started (by kernel_rfl) Tryz.func3
    (ChangeSpec.witness6 (enc := enc) (C := Tryz.checked) false ⟨#[], #[.agg #[.int .u8 0, .slice none 0 0], .agg #[.int .u8 0, .int .u8 0, .int .u8 0, .int .u16 0], .agg #[.int .u8 0, .int .u8 0, .slice none 0 0, .slice none 0 0]], []⟩ 8 (by kernel_rfl) (by kernel_rfl) (by kernel_rfl) (by kernel_rfl)) ?_
  intro W base args ds gs before hval0 hW hcnd _
  have hval : ∀ (j : Nat) t v, Tryz.f3.params[j]? = some t → args[j]? = some v → Value.okWide Tryz.prog W .any base t v := hval0
  have hW' := hW
  obtain ⟨p, q, hA0, hV, rfl, hfz, hnd⟩ := hW
  have hA : DataW.TrodAll enc Tryz.prog W 0 (fun _ => true) true Tryz.f3.params.toList args.toList ds p := hA0
  have hAk := hA
  rw [Tryz.params3] at hA hval
  obtain ⟨v0, v1, v2, dat0, dat1, dat2, pl0, pl1, pl2, rfl, rfl, rfl, h0, h1, h2⟩ := trodAll_three hA
  obtain ⟨rfl, rfl⟩ := trodVars_none hV
  obtain ⟨N, a, es, c, rfl, hN, hes, hesb, _⟩ := open_graph (hval 0 24 v0 rfl rfl) h0
  obtain ⟨K1, A1, P1, D1, rfl, hK1, hA1, hP1, hD1⟩ := open_ask (hval 1 27 v1 rfl rfl) h1
  obtain ⟨M2, A2, a2, b2, bs2, ms2, c2, d2, rfl, hM2, hA2, hbs2, hms2, hbb2, hmm2, hbl2, hml2⟩ := open_trip (hval 2 30 v2 rfl rfl) h2
  clear hA0 hval0
  simp only [List.append_nil] at hW'
  refine (KernelsTruth_ok N a c es K1 A1 P1 D1 M2 A2 a2 b2 c2 d2 bs2 ms2 W hes hbs2 hms2 hN hesb hK1 hA1 hP1 hD1 hM2 hA2 hbb2 hmm2 hbl2 hml2).mono fun e W' ⟨he, hk⟩ => ?_
  subst he
  have hlt := hW'.lt
  refine ⟨_, rfl, _, _, _, [], pl0 ++ pl1 ++ pl2, [], hW', ?_, ?_, ?_, ?_, fun h => by cases h⟩
  · exact trodAll_mk1 (shut_bool Tryz.underlying4 _)
  · exact DataW.TrodAll.respare kernelsTruth_kids kernelsTruth_full (by rw [Tryz.params3]; decide) (carryAll (by simpa [Rows.kernelsTruthSpec] using hAk) (fun p hp => hk.sameAt (hlt p (by simpa using hp)))) (fun p hp => by simpa using hlt p (by simpa using hp))
  · rfl
  · exact hk.keptBut _

theorem kernelsTruth_holds : Rows.KernelsTruthSaid :=
  OpenClaim.holds_of_wide 3 Tryz.f3 rfl rfl rfl rfl rfl rfl rfl ⟨rfl, rfl, rfl, rfl, rfl⟩ rfl rfl rfl rfl rfl (by kernel_rfl) Tryz.func3 (by kernel_rfl)
    (of_decide_eq_true (by kernel_rfl)) (by unfold Func.isWrapper; first | (rw [if_pos (by decide +kernel)]; kernel_rfl) | (rw [if_neg (by decide +kernel)]; exact ⟨rfl, rfl⟩))
    (fun os started H enc _ => kernelsTruth_lifted os started H enc)
#print axioms kernelsTruth_holds
end Go.Proofs.YtedljgohmlilgaaGreat
