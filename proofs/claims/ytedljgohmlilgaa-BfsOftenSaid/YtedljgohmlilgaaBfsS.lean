/-
  The walk of bfs.Shard.
-/
import Derived.Test.YtedljgohmlilgaaBfs
namespace Go.Proofs.Ytedljgohmlilgaa
open Go.RowKit
set_option linter.unusedVariables false

theorem enters_bfsShard1 : Enters 67 := ⟨fun _ _ => by kernel_rfl⟩

set_option maxRecDepth 100000 in
set_option maxHeartbeats 1000000 in
theorem bfsShard1_ok (a b ga gb pc pr pk : Nat) (xs ys : List Int) (round u v m : Nat) (w : World) (h : Two w a ga b gb xs ys) (hu : u < xs.length) (hv : v < ys.length) (hn : xs.length ≤ 256) (hm : ys.length ≤ 256) (hr : round ≤ 1000000)
    (h1 : Box w [gb] pc (vec a)) (h2 : Box w [gb] pr (.int .i64 round)) (h3 : Box w [gb] pk (vec b)) :
    Calls Try.prog 67 #[.int .i64 u, .int .i64 v, .int .i64 m, .pointer (some ⟨pc, 0, none⟩), .pointer (some ⟨pr, 0, none⟩), .pointer (some ⟨pk, 0, none⟩)] w fun e w' => e = .returned (.int .i64 0) ∧ Kept [gb] w w' ∧ Two w' a ga b gb xs (bfsEdge round xs ys (u, v, m)) := by
  have mG := m_Get
  have c1 := h1.cell
  have c2 := h2.cell
  have c3 := h3.cell
  by_cases he : nth xs u = round
  · have H := hid (show bfsEdge round xs ys (u, v, m) = lower ys v (round + 1) by simp [bfsEdge, he])
    have d1 : (nth xs u == (round : Int)) = true := by simp [he]
    have he' := hid he
    clear he
    have hw := hid (show IntKind.u64.wrap (nth xs u + 1) = (round : Int) + 1 by rw [he'.out]; exact u64_in (by omega) (by omega))
    by_cases hlt : (round : Int) + 1 < nth ys v
    · have H2 := hid (lower_lt hlt)
      go_enter Try.func67, Try.ntmps67
      go_wp2_with fail
      refine (Get_ok a ga xs u _ h.cur hu hn).mono ?_; rintro e w' ⟨rfl, rfl⟩
      go_wp2_with fail
      rw [hw.out]
      refine (Less_lt b gb ys v _ _ h.acc hv hm hlt).mono ?_; rintro e w' ⟨rfl, hk, hq⟩
      go_wp2
      go_ret
      exact ⟨rfl, hk, by rw [H.out, H2.out]; exact h.setAcc hk hq⟩
    · have H2 := hid (lower_ge hlt)
      have hge : nth ys v ≤ (round : Int) + 1 := by omega
      clear hlt
      go_enter Try.func67, Try.ntmps67
      go_wp2_with fail
      refine (Get_ok a ga xs u _ h.cur hu hn).mono ?_; rintro e w' ⟨rfl, rfl⟩
      go_wp2_with fail
      rw [hw.out]
      refine (Less_ge b gb ys v _ _ h.acc hv hm hge).mono ?_; rintro e w' ⟨rfl, rfl⟩
      go_wp2
      go_ret
      exact ⟨rfl, Kept.refl _ _, by rw [H.out, H2.out]; exact h⟩
  · have H := hid (show bfsEdge round xs ys (u, v, m) = ys by simp [bfsEdge, he])
    have d1 : (nth xs u == (round : Int)) = false := by simp [he]
    clear he
    go_enter Try.func67, Try.ntmps67
    go_wp2_with fail
    refine (Get_ok a ga xs u _ h.cur hu hn).mono ?_; rintro e w' ⟨rfl, rfl⟩
    go_wp2
    go_ret
    exact ⟨rfl, Kept.refl _ _, by rw [H.out]; exact h⟩

end Go.Proofs.Ytedljgohmlilgaa
