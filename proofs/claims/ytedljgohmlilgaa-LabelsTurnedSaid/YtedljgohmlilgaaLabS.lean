/-
  The walk of labels.Shard's closure.
-/
import Derived.Test.YtedljgohmlilgaaBfs
import Derived.LoopN
namespace Go.Proofs.Ytedljgohmlilgaa
open Go.RowKit
set_option linter.unusedVariables false

theorem enters_labelsShard1 : Enters 62 := ⟨fun _ _ => by kernel_rfl⟩

/-- A place set to a number, if that is less; whether it was, is not asked. -/
theorem Less_any (b g : Nat) (xs : List Int) (i : Nat) (v : Int) (w : World) (h : Vec w b g xs) (hi : i < xs.length) (hn : xs.length ≤ 256) :
    Calls Try.prog 63 #[vec b, .int .i64 i, .int .u64 v] w fun e w' => ∃ c : Bool, e = .returned (.tuple #[.bool c, .int .i64 0]) ∧ Kept [g] w w' ∧ Vec w' b g (lower xs i v) := by
  by_cases hlt : v < nth xs i
  · exact (Less_lt b g xs i v w h hi hn hlt).mono fun e w' ⟨h1, h2, h3⟩ => ⟨true, h1, h2, by rw [lower_lt hlt]; exact h3⟩
  · exact (Less_ge b g xs i v w h hi hn (by omega)).mono fun e w' ⟨h1, h2⟩ => ⟨false, h1, h2 ▸ Kept.refl _ _, by rw [lower_ge hlt, ← h2]; exact h⟩

set_option maxRecDepth 100000 in
set_option maxHeartbeats 1000000 in
theorem labelsShard1_ok (a b ga gb pc pk : Nat) (xs ys : List Int) (u v m : Nat) (w : World) (h : Two w a ga b gb xs ys) (hu : u < xs.length) (hv2 : v < xs.length) (hu2 : u < ys.length) (hv : v < ys.length) (hn : xs.length ≤ 256) (hm : ys.length ≤ 256)
    (h1 : Box w [gb] pc (vec a)) (h3 : Box w [gb] pk (vec b)) :
    Calls Try.prog 62 #[.int .i64 u, .int .i64 v, .int .i64 m, .pointer (some ⟨pc, 0, none⟩), .pointer (some ⟨pk, 0, none⟩)] w fun e w' => e = .returned (.int .i64 0) ∧ Kept [gb] w w' ∧ Two w' a ga b gb xs (labelsEdge xs ys (u, v, m)) := by
  have mG := m_Get
  have c1 := h1.cell
  have c3 := h3.cell
  have hpc : pc < w.heap.size := World.block_lt_of_cell? _ _ c1
  have hpk : pk < w.heap.size := World.block_lt_of_cell? _ _ c3
  have i0 : ∀ w : World, (Instr.index 115 (.agg #[.int .i64 u, .int .i64 v, .int .i64 v, .int .i64 u]) (.int .i64 0)).run Try.prog w = .ok (.agg #[.int .i64 u, .int .i64 v]) w := fun _ => by kernel_rfl
  have i1 : ∀ w : World, (Instr.index 115 (.agg #[.int .i64 u, .int .i64 v, .int .i64 v, .int .i64 u]) (.int .i64 1)).run Try.prog w = .ok (.agg #[.int .i64 v, .int .i64 u]) w := fun _ => by kernel_rfl
  go_enter Try.func62, Try.ntmps62
  go_wp2
  refine wp_loop_rounds 3 ?_
  rw [rounds_succ]
  go_wp2_with fail
  have hk0 : Kept [] w (w.alloc (.cells #[.int .i64 u, .int .i64 v] 114)) := (Kept.refl _ _).alloc _
  have h0 := h.ext hk0
  refine (Get_ok a ga xs u _ h0.cur hu hn).mono ?_; rintro e w1 ⟨rfl, hw⟩
  have o1 : w1.heap[w.heap.size]? = some (.cells #[.int .i64 u, .int .i64 v] 114 (0, 0)) := by rw [← hw]; exact new_obj rfl
  have b1 := h1.ext hk0
  have b3 := h3.ext hk0
  rw [hw] at hk0 h0 b1 b3
  clear hw c1 c3 hpc hpk
  have q1 : w1.cell? ⟨w.heap.size, 1, none⟩ = some (.int .i64 v) := cell_of_obj o1 1
  have c3 := b3.cell
  go_wp2_with fail
  refine (Less_any b gb ys v _ _ h0.acc hv hm).mono ?_; rintro e w2 ⟨cc, rfl, hk1, hq1⟩
  have h2 := h0.setAcc hk1 hq1
  have b1' := b1.kept hk1 (by simp)
  have b3' := b3.kept hk1 (by simp)
  have c1 := b1'.cell
  clear q1 c3
  go_wp2_with fail
  rw [rounds_succ]
  have c3 := b3'.cell
  have hpc : pc < w2.heap.size := World.block_lt_of_cell? _ _ c1
  have hpk : pk < w2.heap.size := World.block_lt_of_cell? _ _ c3
  go_wp2_with fail
  have hk2 : Kept [] w2 (w2.alloc (.cells #[.int .i64 v, .int .i64 u] 114)) := (Kept.refl _ _).alloc _
  replace h2 := h2.ext hk2
  refine (Get_ok a ga xs v _ h2.cur hv2 hn).mono ?_; rintro e w3 ⟨rfl, hw⟩
  have o1 : w3.heap[w2.heap.size]? = some (.cells #[.int .i64 v, .int .i64 u] 114 (0, 0)) := by rw [← hw]; exact new_obj rfl
  replace b3' := b3'.ext hk2
  rw [hw] at hk2 h2 b3'
  clear hw c1 c3 hpc hpk
  have q1 : w3.cell? ⟨w2.heap.size, 1, none⟩ = some (.int .i64 u) := cell_of_obj o1 1
  have c3 := b3'.cell
  go_wp2_with fail
  refine (Less_any b gb _ u _ _ h2.acc (by rw [lower_length]; exact hu2) (by rw [lower_length]; exact hm)).mono ?_; rintro e w4 ⟨cc', rfl, hk3, hq3⟩
  have h4 := h2.setAcc hk3 hq3
  go_wp2_with fail
  rw [rounds_succ]
  go_wp2
  go_ret
  exact ⟨rfl, ((hk0.of_nil.trans hk1).trans hk2.of_nil).trans hk3, h4⟩
end Go.Proofs.Ytedljgohmlilgaa
