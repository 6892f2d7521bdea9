/-
  The walk of bfs.Commit's closure.
-/
import Derived.Test.YtedljgohmlilgaaBfs
namespace Go.Proofs.Ytedljgohmlilgaa
open Go.RowKit
set_option linter.unusedVariables false

theorem enters_bfsCommit1 : Enters 68 := ⟨fun _ _ => by kernel_rfl⟩

set_option maxRecDepth 100000 in
set_option maxHeartbeats 1000000 in
theorem bfsCommit1_far (a b ga gb pk pc pd : Nat) (xs ys : List Int) (i : Nat) (w : World) (h : Two w a ga b gb xs ys) (hi : i < xs.length) (hi2 : i < ys.length) (hm : ys.length ≤ 256) (dn : Bool)
    (h1 : Box w [ga, gb, pd] pc (vec a)) (h2 : Box w [ga, gb, pd] pk (vec b)) (he : nth ys i = far) :
    Calls Try.prog 68 #[.int .i64 i, .pointer (some ⟨pk, 0, none⟩), .pointer (some ⟨pc, 0, none⟩), .pointer (some ⟨pd, 0, none⟩)] w fun e w' => e = .returned (.int .i64 0) ∧ w = w' := by
  have mG := m_Get
  have c2 := h2.cell
  have d1 : (nth ys i == (18446744073709551615 : Int)) = true := by rw [he]; decide
  clear he
  go_enter Try.func68, Try.ntmps68
  go_wp2_with fail
  refine (Get_ok b gb ys i _ h.acc hi2 hm).mono ?_; rintro e w' ⟨rfl, rfl⟩
  go_wp2
  go_ret
  exact ⟨rfl, rfl⟩

/-- Behind a closure's round: what was written. -/
structure Round (S : List Nat) (w w' : World) (a ga b gb : Nat) (xs ys : List Int) (pd : Nat) (dn : Bool) : Prop where
  kept : Kept S w w'
  two : Two w' a ga b gb xs ys
  done : w'.heap[pd]? = some (.cells #[.bool dn] 4 (0, 0))

set_option maxRecDepth 100000 in
set_option maxHeartbeats 1000000 in
theorem bfsCommit1_lt (a b ga gb pk pc pd : Nat) (xs ys : List Int) (i : Nat) (w : World) (h : Two w a ga b gb xs ys) (hi : i < xs.length) (hi2 : i < ys.length) (hn : xs.length ≤ 256) (hm : ys.length ≤ 256) (dn : Bool)
    (h1 : Box w [ga, gb, pd] pc (vec a)) (h2 : Box w [ga, gb, pd] pk (vec b)) (hb : w.heap[pd]? = some (.cells #[.bool dn] 4 (0, 0))) (hpd : pd ≠ a ∧ pd ≠ ga ∧ pd ≠ b ∧ pd ≠ gb) (he : nth ys i ≠ far) (hlt : nth ys i < nth xs i) :
    Calls Try.prog 68 #[.int .i64 i, .pointer (some ⟨pk, 0, none⟩), .pointer (some ⟨pc, 0, none⟩), .pointer (some ⟨pd, 0, none⟩)] w fun e w' => e = .returned (.int .i64 0) ∧ Round [ga, gb, pd] w w' a ga b gb (xs.set i (nth ys i)) (ys.set i far) pd false := by
  have mG := m_Get
  have mS := m_Set
  have c1 := h1.cell
  have c2 := h2.cell
  have d1 : (nth ys i == (18446744073709551615 : Int)) = false := by simpa [far] using he
  clear he
  go_enter Try.func68, Try.ntmps68
  go_wp2_with fail
  refine (Get_ok b gb ys i _ h.acc hi2 hm).mono ?_; rintro e w' ⟨rfl, rfl⟩
  go_wp2_with fail
  refine (Less_lt a ga xs i _ _ h.cur hi hn hlt).mono ?_; rintro e w2 ⟨rfl, hk, hq⟩
  have hb2 := hk.obj hb (by simp; omega)
  have hd2 : w2.cell? ⟨pd, 0, none⟩ = some (.bool dn) := cell_of_obj hb2 0
  have hf2 : w2.frozen? ⟨pd, 0, none⟩ = false := frozen_of_obj hb2 0
  have c2' := (h2.kept hk (by simp)).cell
  have h' := h.setCur hk hq
  clear hlt
  have hk3 : Kept [pd] w2 (w2.setCell ⟨pd, 0, none⟩ (.bool false)) := (Kept.refl _ _).setCell (by simp) _
  have c2'' := ((h2.kept hk (by simp)).kept hk3 (by simp)).cell
  have h3 := h'.kept hk3 (by simp; omega)
  have hd3 : (w2.setCell ⟨pd, 0, none⟩ (.bool false)).heap[pd]? = some (.cells #[.bool false] 4 (0, 0)) := obj_setCell hb2 0 _
  cases dn
  all_goals
    go_wp2_with fail
    refine (Set_ok b gb ys i far _ h3.acc hi2 hm).mono ?_; rintro e w4 ⟨rfl, hk4, hq4⟩
    go_wp2
    go_ret
    exact ⟨rfl, ((hk.to (by simp)).trans (hk3.to (by simp))).trans (hk4.to (by simp)), h3.setAcc hk4 hq4, hk4.obj hd3 (by simp; omega)⟩

set_option maxRecDepth 100000 in
set_option maxHeartbeats 1000000 in
theorem bfsCommit1_ge (a b ga gb pk pc pd : Nat) (xs ys : List Int) (i : Nat) (w : World) (h : Two w a ga b gb xs ys) (hi : i < xs.length) (hi2 : i < ys.length) (hn : xs.length ≤ 256) (hm : ys.length ≤ 256) (dn : Bool)
    (h1 : Box w [ga, gb, pd] pc (vec a)) (h2 : Box w [ga, gb, pd] pk (vec b)) (hb : w.heap[pd]? = some (.cells #[.bool dn] 4 (0, 0))) (hpd : pd ≠ a ∧ pd ≠ ga ∧ pd ≠ b ∧ pd ≠ gb) (he : nth ys i ≠ far) (hge : nth xs i ≤ nth ys i) :
    Calls Try.prog 68 #[.int .i64 i, .pointer (some ⟨pk, 0, none⟩), .pointer (some ⟨pc, 0, none⟩), .pointer (some ⟨pd, 0, none⟩)] w fun e w' => e = .returned (.int .i64 0) ∧ Round [ga, gb, pd] w w' a ga b gb xs (ys.set i far) pd dn := by
  have mG := m_Get
  have mS := m_Set
  have c1 := h1.cell
  have c2 := h2.cell
  have d1 : (nth ys i == (18446744073709551615 : Int)) = false := by simpa [far] using he
  clear he
  have hk3 : Kept [pd] w (w.setCell ⟨pd, 0, none⟩ (.bool dn)) := (Kept.refl _ _).setCell (by simp) _
  have c2'' := (h2.kept hk3 (by simp)).cell
  have h3 := h.kept hk3 (by simp; omega)
  have hd : w.cell? ⟨pd, 0, none⟩ = some (.bool dn) := cell_of_obj hb 0
  have hf : w.frozen? ⟨pd, 0, none⟩ = false := frozen_of_obj hb 0
  have hd3 : (w.setCell ⟨pd, 0, none⟩ (.bool dn)).heap[pd]? = some (.cells #[.bool dn] 4 (0, 0)) := obj_setCell hb 0 _
  cases dn
  all_goals
    go_enter Try.func68, Try.ntmps68
    go_wp2_with fail
    refine (Get_ok b gb ys i _ h.acc hi2 hm).mono ?_; rintro e w' ⟨rfl, rfl⟩
    go_wp2_with fail
    refine (Less_ge a ga xs i _ _ h.cur hi hn hge).mono ?_; rintro e w2 ⟨rfl, rfl⟩
    go_wp2_with fail
    refine (Set_ok b gb ys i far _ h3.acc hi2 hm).mono ?_; rintro e w4 ⟨rfl, hk4, hq4⟩
    go_wp2
    go_ret
    exact ⟨rfl, (hk3.to (by simp)).trans (hk4.to (by simp)), h3.setAcc hk4 hq4, hk4.obj hd3 (by simp; omega)⟩

theorem bfsCommit1_ok (a b ga gb pk pc pd : Nat) (xs ys : List Int) (i : Nat) (w : World) (h : Two w a ga b gb xs ys) (hi : i < xs.length) (hi2 : i < ys.length) (hn : xs.length ≤ 256) (hm : ys.length ≤ 256) (dn : Bool)
    (h1 : Box w [ga, gb, pd] pc (vec a)) (h2 : Box w [ga, gb, pd] pk (vec b)) (hb : w.heap[pd]? = some (.cells #[.bool dn] 4 (0, 0))) (hpd : pd ≠ a ∧ pd ≠ ga ∧ pd ≠ b ∧ pd ≠ gb) :
    Calls Try.prog 68 #[.int .i64 i, .pointer (some ⟨pk, 0, none⟩), .pointer (some ⟨pc, 0, none⟩), .pointer (some ⟨pd, 0, none⟩)] w fun e w' => e = .returned (.int .i64 0) ∧ Round [ga, gb, pd] w w' a ga b gb (xs.set i (bfsCur xs ys i)) (ys.set i far) pd (dn && bfsSame xs ys i) := by
  by_cases he : nth ys i = far
  · refine (bfsCommit1_far a b ga gb pk pc pd xs ys i w h hi hi2 hm dn h1 h2 he).mono fun e w' ⟨h1, h2⟩ => ?_
    subst h2
    refine ⟨h1, Kept.refl _ _, ?_, ?_⟩
    · rw [show bfsCur xs ys i = nth xs i by simp [bfsCur, he], set_nth, ← he, set_nth]; exact h
    · rw [show bfsSame xs ys i = true by simp [bfsSame, he]]; simpa using hb
  · by_cases hlt : nth ys i < nth xs i
    · refine (bfsCommit1_lt a b ga gb pk pc pd xs ys i w h hi hi2 hn hm dn h1 h2 hb hpd he hlt).mono fun e w' ⟨h1, h2⟩ => ?_
      rw [show bfsCur xs ys i = nth ys i by simp [bfsCur, he, hlt], show bfsSame xs ys i = false by simp [bfsSame, he, hlt], Bool.and_false]
      exact ⟨h1, h2⟩
    · refine (bfsCommit1_ge a b ga gb pk pc pd xs ys i w h hi hi2 hn hm dn h1 h2 hb hpd he (by omega)).mono fun e w' ⟨h1, h2⟩ => ?_
      rw [show bfsCur xs ys i = nth xs i by simp [bfsCur, he, hlt], set_nth, show bfsSame xs ys i = true by simp [bfsSame, he, hlt], Bool.and_true]
      exact ⟨h1, h2⟩
end Go.Proofs.Ytedljgohmlilgaa
