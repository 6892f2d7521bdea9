/-
  The walk of labels.Commit.
-/
import Derived.Test.YtedljgohmlilgaaLabC
namespace Go.Proofs.Ytedljgohmlilgaa
open Go.RowKit
set_option linter.unusedVariables false

theorem labelsCur_of {xs ys xs' : List Int} {i : Nat} (h1 : nth xs' i = nth xs i) : labelsCur xs' ys i = labelsCur xs ys i := by simp [labelsCur, h1]
theorem labelsSame_of {xs ys xs' : List Int} {i : Nat} (h1 : nth xs' i = nth xs i) : labelsSame xs' ys i = labelsSame xs ys i := by simp [labelsSame, h1]

set_option maxRecDepth 100000 in
set_option maxHeartbeats 1000000 in
theorem labelsCommit_ok (a b ga gb : Nat) (xs ys : List Int) (arg round : Int) (w : World) (h : Two w a ga b gb xs ys) (hl : ys.length = xs.length) (hn : xs.length ≤ 256) (h1 : 1 ≤ xs.length) :
    Calls Try.prog 28 #[vec a, vec b, .int .i64 arg, .int .i64 round] w fun e w' => e = .returned (.tuple #[.bool (labelsDone xs ys), .int .i64 0]) ∧ Kept [ga] w w' ∧ Two w' a ga b gb (tab (labelsCur xs ys) xs.length) ys := by
  have mL := m_Len
  have HL := hid hl; clear hl
  have hlt := h.lt
  go_enter Try.func28, Try.ntmps28
  go_wp2_with fail
  have hk0 : Kept [] w (((w.alloc (.cells #[vec a] 113)).alloc (.cells #[vec b] 113)).alloc (.cells #[.bool false] 4)) := (((Kept.refl _ _).alloc _).alloc _).alloc _
  have h0 := h.ext hk0
  refine (Check_ok a b ga gb xs ys _ h0.cur h0.acc h1 hn HL.out).mono ?_
  rintro e w1 ⟨rfl, hw⟩
  have hp : w.heap.size + 1 + 1 ≠ a ∧ w.heap.size + 1 + 1 ≠ ga ∧ w.heap.size + 1 + 1 ≠ b ∧ w.heap.size + 1 + 1 ≠ gb := by omega
  have b1 : Box w1 [ga, w.heap.size + 1 + 1] w.heap.size (vec a) := ⟨by rw [← hw]; exact old_cell _ (old_cell _ (new_cell (by simp))), by simp; omega⟩
  have b2 : Box w1 [ga, w.heap.size + 1 + 1] (w.heap.size + 1) (vec b) := ⟨by rw [← hw]; exact old_cell _ (new_cell (by simp)), by simp; omega⟩
  have b3 : w1.heap[w.heap.size + 1 + 1]? = some (.cells #[.bool false] 4 (0, 0)) := by rw [← hw]; exact new_obj (by simp)
  rw [hw] at hk0 h0
  clear hw
  have c3 : w1.cell? ⟨w.heap.size + 1 + 1, 0, none⟩ = some (.bool false) := cell_of_obj b3 0
  have f3 : w1.frozen? ⟨w.heap.size + 1 + 1, 0, none⟩ = false := frozen_of_obj b3 0
  have hk2 : Kept [w.heap.size + 1 + 1] w1 (w1.setCell ⟨w.heap.size + 1 + 1, 0, none⟩ (.bool true)) := (Kept.refl _ _).setCell (by simp) _
  replace b3 : (w1.setCell ⟨w.heap.size + 1 + 1, 0, none⟩ (.bool true)).heap[w.heap.size + 1 + 1]? = some (.cells #[.bool true] 4 (0, 0)) := obj_setCell b3 0 _
  replace b1 := b1.kept hk2 (by simp)
  replace b2 := b2.kept hk2 (by simp)
  replace h0 := h0.kept hk2 (by simp; omega)
  have c1 := b1.cell
  have c2 := b2.cell
  go_wp2_with fail
  refine (Len_ok a ga xs _ h0.cur).mono ?_
  rintro e w2 ⟨rfl, hw⟩
  rw [hw] at hk2 h0 b1 b2 b3
  clear hw c1 c2
  go_wp2_with fail
  have HJ := Each_ok [ga, w.heap.size + 1 + 1] xs.length 64 #[.pointer (some ⟨w.heap.size + 1, 0, none⟩), .pointer (some ⟨w.heap.size, 0, none⟩), .pointer (some ⟨w.heap.size + 1 + 1, 0, none⟩)] enters_labelsCommit1
    (fun j wr => Two wr a ga b gb (setTo (labelsCur xs ys) j xs) ys ∧ Box wr [ga, w.heap.size + 1 + 1] w.heap.size (vec a) ∧ Box wr [ga, w.heap.size + 1 + 1] (w.heap.size + 1) (vec b) ∧ wr.heap[w.heap.size + 1 + 1]? = some (.cells #[.bool (allTo (labelsSame xs ys) j)] 4 (0, 0))) w2 hn ⟨h0, b1, b2, b3⟩
    (fun j wr hj ⟨q, q1, q2, q3⟩ => (labelsCommit1_ok a b ga gb (w.heap.size + 1) w.heap.size (w.heap.size + 1 + 1) _ _ j wr q (by rw [setTo_length]; exact hj) (by rw [HL.out]; exact hj) (by rw [setTo_length]; exact hn) (by rw [HL.out]; exact hn) _ q1 q2 q3 hp).mono
      fun e w' ⟨he, hr⟩ => ⟨he, ⟨by rw [setTo, ← labelsCur_of (nth_setTo_past _ j xs)]; exact hr.two, q1.kept hr.kept (by simp), q2.kept hr.kept (by simp), by rw [allTo, ← labelsSame_of (nth_setTo_past _ j xs)]; exact hr.done⟩, hr.kept⟩)
  refine HJ.mono ?_
  rintro e w3 ⟨rfl, ⟨q, _, _, q3⟩, hk⟩
  have c3 : w3.cell? ⟨w.heap.size + 1 + 1, 0, none⟩ = some (.bool (allTo (labelsSame xs ys) xs.length)) := cell_of_obj q3 0
  have f3 : w3.frozen? ⟨w.heap.size + 1 + 1, 0, none⟩ = false := frozen_of_obj q3 0
  have HD := hid (show labelsDone xs ys = allTo (labelsSame xs ys) xs.length from rfl)
  have hk4 : ∀ v, Kept [ga] w (w3.setCell ⟨w.heap.size + 1 + 1, 0, none⟩ v) := fun v => (((hk0.of_nil (S := [ga, w.heap.size + 1 + 1])).trans (hk2.to (by simp))).trans hk).setCell (by simp) v |>.to (by intro k hk; simp at hk ⊢; omega)
  have q' : ∀ v, Two (w3.setCell ⟨w.heap.size + 1 + 1, 0, none⟩ v) a ga b gb (tab (labelsCur xs ys) xs.length) ys := fun v => by
    rw [setTo_all] at q
    exact q.kept ((Kept.refl [w.heap.size + 1 + 1] _).setCell (by simp) _) (by simp; omega)
  generalize allTo (labelsSame xs ys) xs.length = dn at c3 HD q3
  have c5 : ∀ v, (w3.setCell ⟨w.heap.size + 1 + 1, 0, none⟩ v).cell? ⟨w.heap.size + 1 + 1, 0, none⟩ = some v := fun v => World.cell?_setCell_same _ _ _ c3
  cases dn
  · have c6 := c5 (.bool false)
    have hk6 := hk4 (.bool false)
    have q6 := q' (.bool false)
    clear c5 hk4 q'
    go_wp2
    exact bodyPost_ret (v := .tuple #[.bool false, .int .i64 0]) (by simp [results, Try.results28, go_sem, c6]) rfl ⟨by rw [HD.out], hk6, q6⟩
  · have c6 := c5 (.bool true)
    have hk6 := hk4 (.bool true)
    have q6 := q' (.bool true)
    clear c5 hk4 q'
    go_wp2
    exact bodyPost_ret (v := .tuple #[.bool true, .int .i64 0]) (by simp [results, Try.results28, go_sem, c6]) rfl ⟨by rw [HD.out], hk6, q6⟩
end Go.Proofs.Ytedljgohmlilgaa
