/-
  The walk of labels.Commit.
-/
import Derived.Test.YtedljgohmlilgaaBfsC
namespace Go.Proofs.Ytedljgohmlilgaa
open Go.RowKit
set_option linter.unusedVariables false

theorem enters_labelsCommit1 : Enters 64 := ⟨fun _ _ => by kernel_rfl⟩

set_option maxRecDepth 100000 in
set_option maxHeartbeats 1000000 in
theorem labelsCommit1_lt (a b ga gb pk pc pd : Nat) (xs ys : List Int) (i : Nat) (w : World) (h : Two w a ga b gb xs ys) (hi : i < xs.length) (hi2 : i < ys.length) (hn : xs.length ≤ 256) (hm : ys.length ≤ 256) (dn : Bool)
    (h1 : Box w [ga, pd] pc (vec a)) (h2 : Box w [ga, pd] pk (vec b)) (hb : w.heap[pd]? = some (.cells #[.bool dn] 4 (0, 0))) (hpd : pd ≠ a ∧ pd ≠ ga ∧ pd ≠ b ∧ pd ≠ gb) (hlt : nth ys i < nth xs i) :
    Calls Try.prog 64 #[.int .i64 i, .pointer (some ⟨pk, 0, none⟩), .pointer (some ⟨pc, 0, none⟩), .pointer (some ⟨pd, 0, none⟩)] w fun e w' => e = .returned (.int .i64 0) ∧ Round [ga, pd] w w' a ga b gb (xs.set i (nth ys i)) ys pd false := by
  have mG := m_Get
  have c1 := h1.cell
  have c2 := h2.cell
  cases dn
  all_goals
    go_enter Try.func64, Try.ntmps64
    go_wp2_with fail
    refine (Get_ok b gb ys i _ h.acc hi2 hm).mono ?_; rintro e w' ⟨rfl, rfl⟩
    go_wp2_with fail
    refine (Less_lt a ga xs i _ _ h.cur hi hn hlt).mono ?_; rintro e w2 ⟨rfl, hk, hq⟩
    have hb2 := hk.obj hb (by simp; omega)
    have hd2 : w2.cell? ⟨pd, 0, none⟩ = some (.bool _) := cell_of_obj hb2 0
    have hf2 : w2.frozen? ⟨pd, 0, none⟩ = false := frozen_of_obj hb2 0
    have h' := h.setCur hk hq
    have hk3 : Kept [pd] w2 (w2.setCell ⟨pd, 0, none⟩ (.bool false)) := (Kept.refl _ _).setCell (by simp) _
    have h3 := h'.kept hk3 (by simp; omega)
    have hd3 : (w2.setCell ⟨pd, 0, none⟩ (.bool false)).heap[pd]? = some (.cells #[.bool false] 4 (0, 0)) := obj_setCell hb2 0 _
    go_wp2
    go_ret
    exact ⟨rfl, (hk.to (by simp)).trans (hk3.to (by simp)), h3, hd3⟩

set_option maxRecDepth 100000 in
set_option maxHeartbeats 1000000 in
theorem labelsCommit1_ge (a b ga gb pk pc pd : Nat) (xs ys : List Int) (i : Nat) (w : World) (h : Two w a ga b gb xs ys) (hi : i < xs.length) (hi2 : i < ys.length) (hn : xs.length ≤ 256) (hm : ys.length ≤ 256) (dn : Bool)
    (h1 : Box w [ga, pd] pc (vec a)) (h2 : Box w [ga, pd] pk (vec b)) (hb : w.heap[pd]? = some (.cells #[.bool dn] 4 (0, 0))) (hpd : pd ≠ a ∧ pd ≠ ga ∧ pd ≠ b ∧ pd ≠ gb) (hge : nth xs i ≤ nth ys i) :
    Calls Try.prog 64 #[.int .i64 i, .pointer (some ⟨pk, 0, none⟩), .pointer (some ⟨pc, 0, none⟩), .pointer (some ⟨pd, 0, none⟩)] w fun e w' => e = .returned (.int .i64 0) ∧ Round [ga, pd] w w' a ga b gb xs ys pd dn := by
  have mG := m_Get
  have c1 := h1.cell
  have c2 := h2.cell
  have hk3 : Kept [pd] w (w.setCell ⟨pd, 0, none⟩ (.bool dn)) := (Kept.refl _ _).setCell (by simp) _
  have h3 := h.kept hk3 (by simp; omega)
  have hd : w.cell? ⟨pd, 0, none⟩ = some (.bool dn) := cell_of_obj hb 0
  have hf : w.frozen? ⟨pd, 0, none⟩ = false := frozen_of_obj hb 0
  have hd3 : (w.setCell ⟨pd, 0, none⟩ (.bool dn)).heap[pd]? = some (.cells #[.bool dn] 4 (0, 0)) := obj_setCell hb 0 _
  cases dn
  all_goals
    go_enter Try.func64, Try.ntmps64
    go_wp2_with fail
    refine (Get_ok b gb ys i _ h.acc hi2 hm).mono ?_; rintro e w' ⟨rfl, rfl⟩
    go_wp2_with fail
    refine (Less_ge a ga xs i _ _ h.cur hi hn hge).mono ?_; rintro e w2 ⟨rfl, rfl⟩
    go_wp2
    go_ret
    exact ⟨rfl, hk3.to (by simp), h3, hd3⟩

theorem labelsCommit1_ok (a b ga gb pk pc pd : Nat) (xs ys : List Int) (i : Nat) (w : World) (h : Two w a ga b gb xs ys) (hi : i < xs.length) (hi2 : i < ys.length) (hn : xs.length ≤ 256) (hm : ys.length ≤ 256) (dn : Bool)
    (h1 : Box w [ga, pd] pc (vec a)) (h2 : Box w [ga, pd] pk (vec b)) (hb : w.heap[pd]? = some (.cells #[.bool dn] 4 (0, 0))) (hpd : pd ≠ a ∧ pd ≠ ga ∧ pd ≠ b ∧ pd ≠ gb) :
    Calls Try.prog 64 #[.int .i64 i, .pointer (some ⟨pk, 0, none⟩), .pointer (some ⟨pc, 0, none⟩), .pointer (some ⟨pd, 0, none⟩)] w fun e w' => e = .returned (.int .i64 0) ∧ Round [ga, pd] w w' a ga b gb (xs.set i (labelsCur xs ys i)) ys pd (dn && labelsSame xs ys i) := by
  by_cases hlt : nth ys i < nth xs i
  · refine (labelsCommit1_lt a b ga gb pk pc pd xs ys i w h hi hi2 hn hm dn h1 h2 hb hpd hlt).mono fun e w' ⟨h1, h2⟩ => ?_
    rw [show labelsCur xs ys i = nth ys i by simp [labelsCur, hlt], show labelsSame xs ys i = false by simp [labelsSame, hlt], Bool.and_false]
    exact ⟨h1, h2⟩
  · refine (labelsCommit1_ge a b ga gb pk pc pd xs ys i w h hi hi2 hn hm dn h1 h2 hb hpd (by omega)).mono fun e w' ⟨h1, h2⟩ => ?_
    rw [show labelsCur xs ys i = nth xs i by simp [labelsCur, hlt], set_nth, show labelsSame xs ys i = true by simp [labelsSame, hlt], Bool.and_true]
    exact ⟨h1, h2⟩
end Go.Proofs.Ytedljgohmlilgaa
