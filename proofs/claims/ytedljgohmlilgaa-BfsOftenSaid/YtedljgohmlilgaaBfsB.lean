/-
  The walk of bfs.Begin.
-/
import Derived.Test.YtedljgohmlilgaaBfs
namespace Go.Proofs.Ytedljgohmlilgaa
open Go.RowKit
set_option linter.unusedVariables false

set_option maxRecDepth 100000 in
set_option maxHeartbeats 1000000 in
theorem bfsBegin_ok (a b ga gb : Nat) (xs ys : List Int) (arg : Nat) (w : World) (h : Two w a ga b gb xs ys) (hl : ys.length = xs.length) (hn : xs.length ≤ 256) (h1 : 1 ≤ xs.length) (hx : arg < xs.length) :
    Calls Try.prog 33 #[vec a, vec b, .int .i64 arg] w fun e w' => e = .returned (.int .i64 0) ∧ Kept [ga, gb] w w' ∧ Two w' a ga b gb (tab (farBut arg) xs.length) (tab (fun _ => far) xs.length) := by
  have mL := m_Len
  have HL := hid hl; clear hl
  have hlt := h.lt
  have d1 : decide ((arg : Int) < 0) = false := by simp
  have d2 : decide ((xs.length : Int) ≤ arg) = false := by simp; omega
  go_enter Try.func33, Try.ntmps33
  go_wp2_with fail
  have hk0 : Kept [] w (((w.alloc (.cells #[vec a] 117)).alloc (.cells #[vec b] 117)).alloc (.cells #[.int .i64 arg] 3)) := (((Kept.refl _ _).alloc _).alloc _).alloc _
  have h0 := h.ext hk0
  refine (Check_ok a b ga gb xs ys _ h0.cur h0.acc h1 hn HL.out).mono ?_
  rintro e w1 ⟨rfl, hw⟩
  have b1 : Box w1 [ga, gb] w.heap.size (vec a) := ⟨by rw [← hw]; exact old_cell _ (old_cell _ (new_cell (by simp))), by simp; omega⟩
  have b2 : Box w1 [ga, gb] (w.heap.size + 1) (vec b) := ⟨by rw [← hw]; exact old_cell _ (new_cell (by simp)), by simp; omega⟩
  have b3 : Box w1 [ga, gb] (w.heap.size + 1 + 1) (.int .i64 arg) := ⟨by rw [← hw]; exact new_cell (by simp), by simp; omega⟩
  rw [hw] at hk0 h0
  clear hw
  have c1 := b1.cell
  have c2 := b2.cell
  have c3 := b3.cell
  go_wp2_with fail
  go_quiet ((go_at_call 61; exact quiet_same (Len_ok a ga xs _ (h0.ext ((Kept.refl _ _).drewN _)).cur)))
  have hk1 : Kept [] w (w1.drewN nq) := hk0.drewN nq
  have h2 := h0.ext ((Kept.refl [] w1).drewN nq)
  replace b1 := b1.ext ((Kept.refl [] w1).drewN nq)
  replace b2 := b2.ext ((Kept.refl [] w1).drewN nq)
  replace b3 := b3.ext ((Kept.refl [] w1).drewN nq)
  go_wp2_with fail
  refine (Len_ok a ga xs _ h2.cur).mono ?_
  rintro e w2 ⟨rfl, rfl⟩
  go_wp2_with fail
  have HJ := Each_ok [ga, gb] xs.length 66 #[.pointer (some ⟨w.heap.size + 1 + 1, 0, none⟩), .pointer (some ⟨w.heap.size, 0, none⟩), .pointer (some ⟨w.heap.size + 1, 0, none⟩)] enters_bfsBegin1
    (fun j wr => Two wr a ga b gb (setTo (farBut arg) j xs) (setTo (fun _ => far) j ys) ∧ Box wr [ga, gb] w.heap.size (vec a) ∧ Box wr [ga, gb] (w.heap.size + 1) (vec b) ∧ Box wr [ga, gb] (w.heap.size + 1 + 1) (.int .i64 arg)) (w1.drewN nq) hn ⟨h2, b1, b2, b3⟩
    (fun j wr hj ⟨q, q1, q2, q3⟩ => (bfsBegin1_ok a b ga gb (w.heap.size + 1 + 1) w.heap.size (w.heap.size + 1) _ _ arg j wr q (by rw [setTo_length]; exact hj) (by rw [setTo_length, HL.out]; exact hj) (by rw [setTo_length]; exact hn) (by rw [setTo_length, HL.out]; exact hn) q3 q1 q2).mono
      fun e w' ⟨he, hk, ht⟩ => ⟨he, ⟨ht, q1.kept hk (by simp), q2.kept hk (by simp), q3.kept hk (by simp)⟩, hk⟩)
  refine HJ.mono ?_
  rintro e w2 ⟨rfl, ⟨q, _⟩, hk⟩
  go_wp2
  go_ret
  refine ⟨rfl, hk1.of_nil.trans hk, ?_⟩
  rw [setTo_all, ← HL.out, setTo_all, HL.out] at q
  exact q
end Go.Proofs.Ytedljgohmlilgaa
