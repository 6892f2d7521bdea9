/-
  The walk of rank.Shard's closure.
-/
import Derived.Test.YtedljgohmlilgaaBfs
import Derived.Deep.RegionWith
namespace Go.Proofs.Ytedljgohmlilgaa
open Go.RowKit
set_option linter.unusedVariables false

theorem enters_rankShard1 : Enters 59 := ⟨fun _ _ => by kernel_rfl⟩
theorem rank_sum {x y : Int} {m : Nat} (h0 : 0 ≤ x) (h1 : x < 18446744073709551616) (hm : 1 ≤ m) : IntKind.u64.wrap (y + IntKind.u64.wrap (x.tdiv m)) = word (y + x / m) := by
  have e : x.tdiv m = x / m := Int.tdiv_eq_ediv_of_nonneg h0
  have p0 : 0 ≤ x / (m : Int) := Int.ediv_nonneg h0 (by omega)
  have p1 : x / (m : Int) ≤ x := Int.ediv_le_self _ h0
  rw [e, u64_in p0 (by omega)]
  simp [IntKind.wrap, IntKind.bits, IntKind.signed, word]
theorem n_Set (a : Addr) (w : World) : (nilAhead 321 31 (.pointer (some a)) "Set").run Try.prog w = .ok (some false) w := by kernel_rfl

set_option maxRecDepth 100000 in
set_option maxHeartbeats 1000000 in
theorem rankShard1_ok (a b ga gb pc pk : Nat) (xs ys : List Int) (u v m : Nat) (w : World) (h : Two w a ga b gb xs ys) (hu : u < xs.length) (hv : v < ys.length) (hn : xs.length ≤ 256) (hm : ys.length ≤ 256) (hx : Words xs) (hy : Words ys) (hm1 : 1 ≤ m) (hm2 : m ≤ 1000000)
    (h1 : Box w [gb] pc (vec a)) (h3 : Box w [gb] pk (vec b)) :
    Calls Try.prog 59 #[.int .i64 u, .int .i64 v, .int .i64 m, .pointer (some ⟨pc, 0, none⟩), .pointer (some ⟨pk, 0, none⟩)] w fun e w' => e = .returned (.int .i64 0) ∧ Kept [gb] w w' ∧ Two w' a ga b gb xs (rankEdge xs ys (u, v, m)) := by
  have mG := m_Get
  have mS := m_Set
  have nS := n_Set
  have c1 := h1.cell
  have c3 := h3.cell
  have hxu := (hx u).1
  have hxu2 := (hx u).2
  have hyv := (hy v).1
  have hyv2 := (hy v).2
  go_enter Try.func59, Try.ntmps59
  go_wp2_with fail
  refine (Get_ok a ga xs u _ h.cur hu hn).mono ?_; rintro e w' ⟨rfl, rfl⟩
  go_wp2_with fail
  refine (Get_ok b gb ys v _ h.acc hv hm).mono ?_; rintro e w' ⟨rfl, rfl⟩
  have w1 : IntKind.u64.wrap (m : Int) = m := u64_in (by omega) (by omega)
  have w2 : ¬ m = 0 := by omega
  go_wp2_with fail
  go_region_with (go_at_call 24; refine (Set_ok b gb ys v _ _ (h.ext (Kept.refl _ _).drew).acc hv hm).mono ?_; rintro e w' ⟨rfl, hk, hq⟩)
  rename_i hk hq
  go_wp2
  go_ret
  rw [rank_sum hxu hxu2 hm1] at hq
  exact ⟨rfl, (Kept.refl _ w).drew.trans hk, (h.ext (Kept.refl _ _).drew).setAcc hk hq⟩
end Go.Proofs.Ytedljgohmlilgaa
