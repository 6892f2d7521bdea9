/-
  The row of carousellaw20.CoresCount.
-/
import Derived.Test.YtedljgohmlilgaaLawCC
import Derived.Test.YtedljgohmlilgaaOpen
import Derived.Test.YtedljgohmlilgaaRows
namespace Go.Proofs.Ytedljgohmlilgaa
open Go.ChangeShapes Go.WideShapes Go.ChangeAt Go.RowKit
set_option linter.unusedVariables false

set_option maxRecDepth 100000 in
set_option maxHeartbeats 4000000 in
theorem CoresCount_ok (N many : Nat) (a : Option Addr) (c : Nat) (ps : List (Nat × Nat)) (ad : Option Addr) (cd : Nat) (bs : List Bool) (w : World) (h : IsPairs w a ps) (hb : IsBools w ad bs) (hN : N < 256) (hm : many < 256)
    (hps : ∀ i, i < ps.length → (edge ps i).1 < 256 ∧ (edge ps i).2 < 256) :
    Calls Try.prog 9 #[.agg #[.int .u8 N, .slice a ps.length c], .int .u8 many, .slice ad bs.length cd] w fun e w' => e = .returned (.bool true) ∧ Kept [] w w' := by
  by_cases h1 : ps.length ≤ 300
  · by_cases h2 : bs.length ≤ 256
    · exact CoresCount_main N many a c ps ad cd bs w h hb hN hm hps h1 h2
    · have d1 : decide ((300 : Int) < ps.length) = false := by simp; omega
      have d2 : decide ((256 : Int) < bs.length) = true := by simp; omega
      go_enter Try.func9, Try.ntmps9
      go_wp2_with fail
      have kb : Kept [] w (w.alloc (.cells #[.int .u8 N, .slice a ps.length c] 24)) := (Kept.refl _ _).alloc _
      refine (coresEnds_ok _).mono ?_
      rintro e w7 ⟨rfl, hk7⟩
      have K7 := hid (kb.trans hk7)
      clear hk7 kb
      go_wp2_with fail
      go_ret
      exact ⟨rfl, K7.out⟩
  · have d1 : decide ((300 : Int) < ps.length) = true := by simp; omega
    go_enter Try.func9, Try.ntmps9
    go_wp2_with fail
    have kb : Kept [] w (w.alloc (.cells #[.int .u8 N, .slice a ps.length c] 24)) := (Kept.refl _ _).alloc _
    refine (coresEnds_ok _).mono ?_
    rintro e w7 ⟨rfl, hk7⟩
    have K7 := hid (kb.trans hk7)
    clear hk7 kb
    go_wp2_with fail
    go_ret
    exact ⟨rfl, K7.out⟩

theorem Try.own : ownKnob Try.prog.godebug = none := by kernel_rfl
theorem rowKids : Kids Try.prog (fun t => t < Try.prog.types.size) := kids_rows (P := Try.prog) (by kernel_rfl) (by kernel_rfl)
theorem rowFull : ∀ t e, t < Try.prog.types.size → Try.prog.underlying t = some (.slice e) → 0 < Try.prog.cellsOf e := slices_full_of Try.prog (by kernel_rfl)

set_option maxRecDepth 100000 in
theorem coresCount_lifted (os : Os) (started : os.Started) (H : Type) (enc : TypeId × Value → H) :
    ReturnsInHanded {} Try.checked os 9 .any (Rows.coresCountSpec.pre6 enc Try.prog Try.f9 Rows.coresCountRow.domain false) (Rows.coresCountSpec.post enc Try.prog Try.f9 false true false false) := by
  refine returnsInHanded_of_change (C := Try.checked) Try.own started (by kernel_rfl) Try.func9
    (ChangeSpec.witness6 (enc := enc) (C := Try.checked) false ⟨#[], #[.agg #[.int .u8 0, .slice none 0 0], .int .u8 0, .slice none 0 0], []⟩ 8 (by kernel_rfl) (by kernel_rfl) (by kernel_rfl) (by kernel_rfl)) ?_
  intro W base args ds gs before hval0 hW hcnd _
  have hval : ∀ (j : Nat) t v, Try.f9.params[j]? = some t → args[j]? = some v → Value.okWide Try.prog W .any base t v := hval0
  have hW' := hW
  obtain ⟨p, q, hA0, hV, rfl, hfz, hnd⟩ := hW
  have hA : DataW.TrodAll enc Try.prog W 0 (fun _ => true) true Try.f9.params.toList args.toList ds p := hA0
  have hAk := hA
  rw [Try.params9] at hA hval
  obtain ⟨v0, v1, v2, d0, d1, d2, p0, p1, p2, rfl, rfl, rfl, h0, h1, h2⟩ := trodAll_three hA
  obtain ⟨rfl, rfl⟩ := trodVars_none hV
  obtain ⟨N, a, es, c, rfl, hN, hes, hesb, _⟩ := open_graph (hval 0 24 v0 rfl rfl) h0
  obtain ⟨many, rfl, rfl, rfl, w1⟩ := open_int Try.underlying5 (hval 1 5 v1 rfl rfl) h1
  obtain ⟨ad, bs, cd, rfl, hbs, _⟩ := open_bools (hval 2 73 v2 rfl rfl) h2
  have bm := byte_of_wf w1
  obtain ⟨m, rfl⟩ := Int.eq_ofNat_of_zero_le bm.1
  clear hA0 hval0
  simp only [List.append_nil] at hW'
  refine (CoresCount_ok N m a c es ad cd bs W hes hbs hN (by omega) hesb).mono fun e W' ⟨he, hk⟩ => ?_
  subst he
  have hlt := hW'.lt
  refine ⟨_, rfl, _, _, _, [], p0 ++ p2, [], hW', ?_, ?_, ?_, ?_, fun h => by cases h⟩
  · exact trodAll_mk1 (shut_bool Try.underlying4 _)
  · exact DataW.TrodAll.respare rowKids rowFull (by rw [Try.params9]; decide) (carryAll (by simpa [Rows.coresCountSpec] using hAk) (fun p hp => hk.sameAt (hlt p (by simpa using hp)))) (fun p hp => by simpa using hlt p (by simpa using hp))
  · rfl
  · exact hk.keptBut _

theorem coresCount_holds : Rows.CoresCountSaid :=
  OpenClaim.holds_of_wide 9 Try.f9 rfl rfl rfl rfl rfl rfl rfl ⟨rfl, rfl, rfl, rfl, rfl⟩ rfl rfl rfl rfl rfl (by kernel_rfl) Try.func9 (by kernel_rfl)
    (of_decide_eq_true (by kernel_rfl)) (by unfold Func.isWrapper; first | (rw [if_pos (by decide +kernel)]; kernel_rfl) | (rw [if_neg (by decide +kernel)]; exact ⟨rfl, rfl⟩))
    (fun os started H enc _ => coresCount_lifted os started H enc)
#print axioms coresCount_holds
end Go.Proofs.Ytedljgohmlilgaa
