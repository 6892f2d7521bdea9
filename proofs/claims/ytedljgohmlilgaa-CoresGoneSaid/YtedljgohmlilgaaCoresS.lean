/-
  The walk of cores.Shard's closure.
-/
import Derived.Test.YtedljgohmlilgaaBfs
import Derived.Test.YtedljgohmlilgaaRankS
import Derived.LoopN
namespace Go.Proofs.Ytedljgohmlilgaa
open Go.RowKit
set_option linter.unusedVariables false

theorem enters_coresShard1 : Enters 70 := ⟨fun _ _ => by kernel_rfl⟩

set_option maxRecDepth 100000 in
set_option maxHeartbeats 1000000 in
theorem more_ok (b g : Nat) (xs : List Int) (i : Nat) (w : World) (h : Vec w b g xs) (hi : i < xs.length) (hn : xs.length ≤ 256) :
    Calls Try.prog 71 #[vec b, .int .i64 i] w fun e w' => e = .returned (.int .i64 0) ∧ Kept [g] w w' ∧ Vec w' b g (inc xs i) := by
  have mG := m_Get
  have mS := m_Set
  have HW := hid (u64_word (nth xs i + 1))
  go_enter Try.func71, Try.ntmps71
  go_wp2_with fail
  refine (Get_ok b g xs i _ h hi hn).mono ?_; rintro e w' ⟨rfl, rfl⟩
  go_wp2_with fail
  refine (Set_ok b g xs i _ _ h hi hn).mono ?_; rintro e w' ⟨rfl, hk, hv⟩
  go_wp2
  go_ret
  rw [HW.out] at hv
  exact ⟨rfl, hk, hv⟩

set_option maxRecDepth 100000 in
set_option maxHeartbeats 1000000 in
theorem coresShard1_ok (a b ga gb pc pk : Nat) (xs ys : List Int) (u v m : Nat) (w : World) (h : Two w a ga b gb xs ys) (hu : u < xs.length) (hv2 : v < xs.length) (hu2 : u < ys.length) (hv : v < ys.length) (hn : xs.length ≤ 256) (hm : ys.length ≤ 256)
    (h1 : Box w [gb] pc (vec a)) (h3 : Box w [gb] pk (vec b)) :
    Calls Try.prog 70 #[.int .i64 u, .int .i64 v, .int .i64 m, .pointer (some ⟨pc, 0, none⟩), .pointer (some ⟨pk, 0, none⟩)] w fun e w' => e = .returned (.int .i64 0) ∧ Kept [gb] w w' ∧ Two w' a ga b gb xs (coresEdge xs ys (u, v, m)) := by
  have mG := m_Get
  have c1 := h1.cell
  have c3 := h3.cell
  have i0 : ∀ w : World, (Instr.index 114 (.agg #[.int .i64 u, .int .i64 v]) (.int .i64 0)).run Try.prog w = .ok (.int .i64 u) w := fun _ => by kernel_rfl
  have i1 : ∀ w : World, (Instr.index 114 (.agg #[.int .i64 u, .int .i64 v]) (.int .i64 1)).run Try.prog w = .ok (.int .i64 v) w := fun _ => by kernel_rfl
  by_cases e1 : nth xs u = 0
  · have H := hid (show coresEdge xs ys (u, v, m) = ys by simp [coresEdge, e1])
    have d1 : (nth xs u == (0 : Int)) = true := by simp [e1]
    clear e1
    go_enter Try.func70, Try.ntmps70
    go_wp2
    refine wp_loop_rounds 1 ?_
    rw [rounds_succ]
    go_wp2_with fail
    refine (Get_ok a ga xs u _ h.cur hu hn).mono ?_; rintro e w1 ⟨rfl, rfl⟩
    go_wp2
    go_ret
    exact ⟨rfl, Kept.refl _ _, by rw [H.out]; exact h⟩
  · have d1 : (nth xs u == (0 : Int)) = false := by simp [e1]
    by_cases e2 : nth xs v = 0
    · have H := hid (show coresEdge xs ys (u, v, m) = ys by simp [coresEdge, e1, e2])
      have d2 : (nth xs v == (0 : Int)) = true := by simp [e2]
      clear e1 e2
      go_enter Try.func70, Try.ntmps70
      go_wp2
      refine wp_loop_rounds 2 ?_
      rw [rounds_succ]
      go_wp2_with fail
      refine (Get_ok a ga xs u _ h.cur hu hn).mono ?_; rintro e w1 ⟨rfl, rfl⟩
      go_wp2_with fail
      rw [rounds_succ]
      go_wp2_with fail
      refine (Get_ok a ga xs v _ h.cur hv2 hn).mono ?_; rintro e w1 ⟨rfl, rfl⟩
      go_wp2
      go_ret
      exact ⟨rfl, Kept.refl _ _, by rw [H.out]; exact h⟩
    · have H := hid (show coresEdge xs ys (u, v, m) = inc (inc ys u) v by simp [coresEdge, e1, e2])
      have d2 : (nth xs v == (0 : Int)) = false := by simp [e2]
      clear e1 e2
      go_enter Try.func70, Try.ntmps70
      go_wp2
      refine wp_loop_rounds 3 ?_
      rw [rounds_succ]
      go_wp2_with fail
      refine (Get_ok a ga xs u _ h.cur hu hn).mono ?_; rintro e w1 ⟨rfl, rfl⟩
      go_wp2_with fail
      rw [rounds_succ]
      go_wp2_with fail
      refine (Get_ok a ga xs v _ h.cur hv2 hn).mono ?_; rintro e w1 ⟨rfl, rfl⟩
      go_wp2_with fail
      rw [rounds_succ]
      go_wp2_with fail
      refine (more_ok b gb ys u _ h.acc hu2 hm).mono ?_; rintro e w2 ⟨rfl, hk, hq⟩
      have h2 := h.setAcc hk hq
      have c3' := (h3.kept hk (by simp)).cell
      go_wp2_with fail
      refine (more_ok b gb _ v _ h2.acc (by simpa [inc] using hv) (by simpa [inc] using hm)).mono ?_; rintro e w3 ⟨rfl, hk3, hq3⟩
      go_wp2
      go_ret
      exact ⟨rfl, hk.trans hk3, by rw [H.out]; exact h2.setAcc hk3 hq3⟩
end Go.Proofs.Ytedljgohmlilgaa
