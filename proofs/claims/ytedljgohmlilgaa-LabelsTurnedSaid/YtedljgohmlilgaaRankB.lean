/-
  The walk of rank.Begin.
-/
import Derived.Test.YtedljgohmlilgaaBfs
namespace Go.Proofs.Ytedljgohmlilgaa
open Go.RowKit
set_option linter.unusedVariables false

theorem enters_rankBegin1 : Enters 55 := ⟨fun _ _ => by kernel_rfl⟩

set_option maxRecDepth 100000 in
set_option maxHeartbeats 1000000 in
theorem rankBegin1_ok (a b ga gb pc pk : Nat) (xs ys : List Int) (j : Nat) (w : World) (h : Two w a ga b gb xs ys) (hj : j < xs.length) (hj2 : j < ys.length) (hn : xs.length ≤ 256) (hm : ys.length ≤ 256)
    (h2 : Box w [ga, gb] pc (vec a)) (h3 : Box w [ga, gb] pk (vec b)) :
    Calls Try.prog 55 #[.int .i64 j, .pointer (some ⟨pc, 0, none⟩), .pointer (some ⟨pk, 0, none⟩)] w fun e w' => e = .returned (.int .i64 0) ∧ Kept [ga, gb] w w' ∧ Two w' a ga b gb (xs.set j one) (ys.set j 0) := by
  have mS := m_Set
  have c2 := h2.cell
  have c3 := h3.cell
  go_enter Try.func55, Try.ntmps55
  go_wp2_with fail
  refine (Set_ok a ga xs j one _ h.cur hj hn).mono ?_; rintro e w' ⟨rfl, hk, hv⟩
  have c3' := (h3.kept hk (by simp)).cell
  go_wp2_with fail
  have h' := h.setCur hk hv
  refine (Set_ok b gb ys j _ _ h'.acc hj2 hm).mono ?_; rintro e w' ⟨rfl, hk', hv'⟩
  go_wp2
  go_ret
  exact ⟨rfl, (hk.to (by simp)).trans (hk'.to (by simp)), h'.setAcc hk' hv'⟩

set_option maxRecDepth 100000 in
set_option maxHeartbeats 1000000 in
theorem rankBegin_ok (a b ga gb : Nat) (xs ys : List Int) (arg : Nat) (w : World) (h : Two w a ga b gb xs ys) (hl : ys.length = xs.length) (hn : xs.length ≤ 256) (h1 : 1 ≤ xs.length) (hx : 1 ≤ arg) (hx2 : arg ≤ 64) :
    Calls Try.prog 20 #[vec a, vec b, .int .i64 arg] w fun e w' => e = .returned (.int .i64 0) ∧ Kept [ga, gb] w w' ∧ Two w' a ga b gb (tab (fun _ => one) xs.length) (tab (fun _ => 0) xs.length) := by
  have mL := m_Len
  have HL := hid hl; clear hl
  have hlt := h.lt
  have d1 : decide ((arg : Int) < 1) = false := by simp; omega
  have d2 : decide ((64 : Int) < arg) = false := by simp; omega
  go_enter Try.func20, Try.ntmps20
  go_wp2_with fail
  have hk0 : Kept [] w ((w.alloc (.cells #[vec a] 102)).alloc (.cells #[vec b] 102)) := ((Kept.refl _ _).alloc _).alloc _
  have h0 := h.ext hk0
  refine (Check_ok a b ga gb xs ys _ h0.cur h0.acc h1 hn HL.out).mono ?_
  rintro e w1 ⟨rfl, hw⟩
  have b1 : Box w1 [ga, gb] w.heap.size (vec a) := ⟨by rw [← hw]; exact old_cell _ (new_cell (by simp)), by simp; omega⟩
  have b2 : Box w1 [ga, gb] (w.heap.size + 1) (vec b) := ⟨by rw [← hw]; exact new_cell (by simp), by simp; omega⟩
  rw [hw] at hk0 h0
  clear hw
  have c1 := b1.cell
  have c2 := b2.cell
  go_wp2_with fail
  refine (Len_ok a ga xs _ h0.cur).mono ?_
  rintro e w2 ⟨rfl, rfl⟩
  go_wp2_with fail
  have HJ := Each_ok [ga, gb] xs.length 55 #[.pointer (some ⟨w.heap.size, 0, none⟩), .pointer (some ⟨w.heap.size + 1, 0, none⟩)] enters_rankBegin1
    (fun j wr => Two wr a ga b gb (setTo (fun _ => one) j xs) (setTo (fun _ => 0) j ys) ∧ Box wr [ga, gb] w.heap.size (vec a) ∧ Box wr [ga, gb] (w.heap.size + 1) (vec b)) w1 hn ⟨h0, b1, b2⟩
    (fun j wr hj ⟨q, q1, q2⟩ => (rankBegin1_ok a b ga gb w.heap.size (w.heap.size + 1) _ _ j wr q (by rw [setTo_length]; exact hj) (by rw [setTo_length, HL.out]; exact hj) (by rw [setTo_length]; exact hn) (by rw [setTo_length, HL.out]; exact hn) q1 q2).mono
      fun e w' ⟨he, hk, ht⟩ => ⟨he, ⟨ht, q1.kept hk (by simp), q2.kept hk (by simp)⟩, hk⟩)
  refine HJ.mono ?_
  rintro e w2 ⟨rfl, ⟨q, _⟩, hk⟩
  go_wp2
  go_ret
  refine ⟨rfl, hk0.of_nil.trans hk, ?_⟩
  rw [setTo_all, ← HL.out, setTo_all, HL.out] at q
  exact q
end Go.Proofs.Ytedljgohmlilgaa
