/-
  The walk of rank.Commit.
-/
import Derived.Test.YtedljgohmlilgaaRankS
namespace Go.Proofs.Ytedljgohmlilgaa
open Go.RowKit
set_option linter.unusedVariables false

theorem enters_rankCommit1 : Enters 60 := ⟨fun _ _ => by kernel_rfl⟩

theorem ranked_eq (y : Int) : IntKind.u64.wrap (644245094 + IntKind.u64.wrap ((IntKind.u64.wrap (y * 850)).tdiv 1000)) = ranked y := by
  have h := word_in (y * 850)
  rw [u64_word (y * 850), Int.tdiv_eq_ediv_of_nonneg h.1, u64_in (x := word (y * 850) / 1000) (by omega) (by omega), u64_word, ranked]

set_option maxRecDepth 100000 in
set_option maxHeartbeats 1000000 in
theorem rankCommit1_ok (a b ga gb pk pc : Nat) (xs ys : List Int) (i : Nat) (w : World) (h : Two w a ga b gb xs ys) (hi : i < xs.length) (hi2 : i < ys.length) (hn : xs.length ≤ 256) (hm : ys.length ≤ 256) (hy : Words ys)
    (h1 : Box w [ga, gb] pc (vec a)) (h2 : Box w [ga, gb] pk (vec b)) :
    Calls Try.prog 60 #[.int .i64 i, .pointer (some ⟨pk, 0, none⟩), .pointer (some ⟨pc, 0, none⟩)] w fun e w' => e = .returned (.int .i64 0) ∧ Kept [ga, gb] w w' ∧ Two w' a ga b gb (xs.set i (ranked (nth ys i))) (ys.set i 0) := by
  have mG := m_Get
  have mS := m_Set
  have c1 := h1.cell
  have c2 := h2.cell
  have hy0 := (hy i).1
  have hy1 := (hy i).2
  go_enter Try.func60, Try.ntmps60
  go_wp2_with fail
  refine (Get_ok b gb ys i _ h.acc hi2 hm).mono ?_; rintro e w' ⟨rfl, rfl⟩
  go_wp2_with fail
  refine (Set_ok a ga xs i _ _ h.cur hi hn).mono ?_; rintro e w' ⟨rfl, hk, hv⟩
  have c2' := (h2.kept hk (by simp)).cell
  have h' := h.setCur hk hv
  go_wp2_with fail
  refine (Set_ok b gb ys i 0 _ h'.acc hi2 hm).mono ?_; rintro e w4 ⟨rfl, hk4, hq4⟩
  go_wp2
  go_ret
  refine ⟨rfl, (hk.to (by simp)).trans (hk4.to (by simp)), ?_⟩
  rw [← ranked_eq]
  exact h'.setAcc hk4 hq4

set_option maxRecDepth 100000 in
set_option maxHeartbeats 1000000 in
theorem rankCommit_ok (a b ga gb : Nat) (xs ys : List Int) (arg round : Nat) (w : World) (h : Two w a ga b gb xs ys) (hl : ys.length = xs.length) (hn : xs.length ≤ 256) (h1 : 1 ≤ xs.length) (hy : Words ys) (hr : 1 ≤ arg) (hr1 : arg ≤ 1000000) (hr2 : round ≤ 1000000) :
    Calls Try.prog 23 #[vec a, vec b, .int .i64 arg, .int .i64 round] w fun e w' => e = .returned (.tuple #[.bool (rankDone arg round), .int .i64 0]) ∧ Kept [ga, gb] w w' ∧ Two w' a ga b gb (tab (fun i => ranked (nth ys i)) xs.length) (tab (fun _ => 0) xs.length) := by
  have mL := m_Len
  have HL := hid hl; clear hl
  have hlt := h.lt
  have HY : ∀ j, Words (setTo (fun _ => 0) j ys) := fun j => by
    induction j with
    | zero => exact hy
    | succ j ih => exact ih.set _ (v := 0) (by omega)
  have HY := hid HY
  have key : ∀ (g1 g2 : Bool), decide (arg ≤ round) = g1 → ((round : Int) == (arg : Int) - 1) = g2 → rankDone arg round = (g1 || g2) := by
    intro g1 g2 e1 e2
    rw [← e1, ← e2, Bool.eq_iff_iff]
    simp [rankDone]; omega
  generalize hg1 : decide (arg ≤ round) = g1 at key
  generalize hg2 : ((round : Int) == (arg : Int) - 1) = g2 at key
  have HD := hid (key _ _ rfl rfl)
  clear key
  cases g1 <;> cases g2
  all_goals
    go_enter Try.func23, Try.ntmps23
    go_wp2_with fail
    have hk0 : Kept [] w ((w.alloc (.cells #[vec a] 102)).alloc (.cells #[vec b] 102)) := ((Kept.refl _ _).alloc _).alloc _
    have h0 := h.ext hk0
    refine (Check_ok a b ga gb xs ys _ h0.cur h0.acc h1 hn HL.out).mono ?_
    rintro e w1 ⟨rfl, hw⟩
    have b1 : Box w1 [ga, gb] w.heap.size (vec a) := ⟨by rw [← hw]; exact old_cell _ (new_cell (by simp)), by simp; omega⟩
    have b2 : Box w1 [ga, gb] (w.heap.size + 1) (vec b) := ⟨by rw [← hw]; exact new_cell (by simp), by simp; omega⟩
    rw [hw] at hk0 h0
    clear hw
    have c1 := b1.cell
    have c2 := b2.cell
    go_wp2_with fail
    refine (Len_ok a ga xs _ h0.cur).mono ?_
    rintro e w2 ⟨rfl, rfl⟩
    go_wp2_with fail
    have HJ := Each_ok [ga, gb] xs.length 60 #[.pointer (some ⟨w.heap.size + 1, 0, none⟩), .pointer (some ⟨w.heap.size, 0, none⟩)] enters_rankCommit1
      (fun j wr => Two wr a ga b gb (setTo (fun i => ranked (nth ys i)) j xs) (setTo (fun _ => 0) j ys) ∧ Box wr [ga, gb] w.heap.size (vec a) ∧ Box wr [ga, gb] (w.heap.size + 1) (vec b)) w1 hn ⟨h0, b1, b2⟩
      (fun j wr hj ⟨q, q1, q2⟩ => (rankCommit1_ok a b ga gb (w.heap.size + 1) w.heap.size _ _ j wr q (by rw [setTo_length]; exact hj) (by rw [setTo_length, HL.out]; exact hj) (by rw [setTo_length]; exact hn) (by rw [setTo_length, HL.out]; exact hn) (HY.out j) q1 q2).mono
        fun e w' ⟨he, hk, ht⟩ => ⟨he, ⟨by rw [setTo, setTo, ← nth_setTo_past (fun _ => 0) j ys]; exact ht, q1.kept hk (by simp), q2.kept hk (by simp)⟩, hk⟩)
    refine HJ.mono ?_
    rintro e w2 ⟨rfl, ⟨q, _⟩, hk⟩
    go_wp2
    go_ret2
    refine ⟨by rw [HD.out]; rfl, hk0.of_nil.trans hk, ?_⟩
    rw [setTo_all, ← HL.out, setTo_all, HL.out] at q
    exact q
end Go.Proofs.Ytedljgohmlilgaa
