/-
  The walks of package rows: rows of numbers behind an interface, each place, each edge.
-/
import Derived.Test.YtedljgohmlilgaaGreatVec
import Derived.Deep.LoopGhost
namespace Go.Proofs.YtedljgohmlilgaaGreat
set_option linter.unusedVariables false
open Go.RowKit

/-- The interface value of a row. -/
abbrev vec (b : Nat) : Value := .iface 67 (.pointer (some ⟨b, 0, none⟩))
theorem m_Len (a : Addr) (w : World) : (method 309 67 (.pointer (some a)) "Len").run Tryz.prog w = .ok (154, .pointer (some a)) w := by kernel_rfl
theorem m_Get (a : Addr) (w : World) : (method 309 67 (.pointer (some a)) "Get").run Tryz.prog w = .ok (153, .pointer (some a)) w := by kernel_rfl
theorem m_Set (a : Addr) (w : World) : (method 309 67 (.pointer (some a)) "Set").run Tryz.prog w = .ok (155, .pointer (some a)) w := by kernel_rfl

set_option maxHeartbeats 400000 in
theorem Check_ok (a b ga gb : Nat) (xs ys : List Int) (w : World) (ha : Vec w a ga xs) (hb : Vec w b gb ys) (h1 : 1 ≤ xs.length) (h2 : xs.length ≤ 256) (h3 : ys.length = xs.length) :
    Calls Tryz.prog 42 #[vec a, vec b] w fun e w' => e = .returned (.int .i64 0) ∧ w = w' := by
  have mL := m_Len
  have H := hid h3; clear h3
  go_enter Tryz.func42, Tryz.ntmps42
  go_wp2_with fail
  refine (Len_ok a ga xs _ ha).mono ?_; rintro e w' ⟨rfl, rfl⟩
  go_wp2_with fail
  refine (Len_ok b gb ys _ hb).mono ?_; rintro e w' ⟨rfl, rfl⟩
  have h3 := H.out
  go_wp2
  go_ret
  exact ⟨rfl, rfl⟩

set_option maxHeartbeats 400000 in
theorem Less_lt (b g : Nat) (xs : List Int) (i : Nat) (v : Int) (w : World) (h : Vec w b g xs) (hi : i < xs.length) (hn : xs.length ≤ 256) (hlt : v < nth xs i) :
    Calls Tryz.prog 92 #[vec b, .int .i64 i, .int .u64 v] w fun e w' => e = .returned (.tuple #[.bool true, .int .i64 0]) ∧ Kept [g] w w' ∧ Vec w' b g (xs.set i v) := by
  have mG := m_Get
  have mS := m_Set
  go_enter Tryz.func92, Tryz.ntmps92
  go_wp2_with fail
  refine (Get_ok b g xs i _ h hi hn).mono ?_; rintro e w' ⟨rfl, rfl⟩
  go_wp2_with fail
  refine (Set_ok b g xs i v _ h hi hn).mono ?_; rintro e w' ⟨rfl, hk, hv⟩
  go_wp2
  go_ret2
  exact ⟨rfl, hk, hv⟩

set_option maxHeartbeats 400000 in
theorem Less_ge (b g : Nat) (xs : List Int) (i : Nat) (v : Int) (w : World) (h : Vec w b g xs) (hi : i < xs.length) (hn : xs.length ≤ 256) (hge : nth xs i ≤ v) :
    Calls Tryz.prog 92 #[vec b, .int .i64 i, .int .u64 v] w fun e w' => e = .returned (.tuple #[.bool false, .int .i64 0]) ∧ w = w' := by
  have mG := m_Get
  go_enter Tryz.func92, Tryz.ntmps92
  go_wp2_with fail
  refine (Get_ok b g xs i _ h hi hn).mono ?_; rintro e w' ⟨rfl, rfl⟩
  go_wp2
  go_ret2
  exact ⟨rfl, rfl⟩

set_option maxHeartbeats 400000 in
theorem Two_ok (a b ga gb : Nat) (xs ys : List Int) (i : Nat) (w : World) (ha : Vec w a ga xs) (hb : Vec w b gb ys) (hi : i < xs.length) (hj : i < ys.length) (hn : xs.length ≤ 256) (hm : ys.length ≤ 256) :
    Calls Tryz.prog 104 #[vec a, vec b, .int .i64 i] w fun e w' => e = .returned (.tuple #[.int .u64 (nth xs i), .int .u64 (nth ys i), .int .i64 0]) ∧ w = w' := by
  have mG := m_Get
  go_enter Tryz.func104, Tryz.ntmps104
  go_wp2_with fail
  refine (Get_ok a ga xs i _ ha hi hn).mono ?_; rintro e w' ⟨rfl, rfl⟩
  go_wp2_with fail
  refine (Get_ok b gb ys i _ hb hj hm).mono ?_; rintro e w' ⟨rfl, rfl⟩
  go_wp2
  go_ret3
  exact ⟨rfl, rfl⟩

/-- A function's call is entered: it has Go text. -/
structure Enters (f : FuncId) : Prop where
  run : ∀ args w, (callFunc f args).run Tryz.prog w = .ok (.enter f args) w

set_option maxRecDepth 100000 in
set_option maxHeartbeats 400000 in
/-- Each place, by a closure that is told by what holds ahead of each place. -/
theorem Each_ok (S : List Nat) (n : Nat) (f : FuncId) (cap : Array Value) (hf : Enters f) (J : Nat → World → Prop) (w : World) (hn : n ≤ 256) (h0 : J 0 w)
    (hstep : ∀ j w, j < n → J j w → Calls Tryz.prog f (#[.int .i64 j] ++ cap) w fun e w' => e = .returned (.int .i64 0) ∧ J (j + 1) w' ∧ Kept S w w') :
    Calls Tryz.prog 87 #[.int .i64 n, .func (.func f) #[] cap] w fun e w' => e = .returned (.int .i64 0) ∧ J n w' ∧ Kept S w w' := by
  have H := hid hstep; clear hstep
  have hE := hf.run
  go_enter Tryz.func87, Tryz.ntmps87
  go_wp2
  go_loopw [5, 6, 8] (fun _ _ v wr => ∃ k : Nat, k ≤ n ∧ v = .int .i64 k ∧ J k wr ∧ Kept S w wr) (fun _ _ v _ => n - (intOf v).toNat)
  case atStart => exact ⟨0, Nat.zero_le _, rfl, h0, Kept.refl _ _⟩
  case round =>
    obtain ⟨k, hk, rfl, hJ, hK⟩ := hrel
    by_cases hlt : k < n
    · go_wp2_with fail
      refine (H.out k _ hlt hJ).mono ?_; rintro e w' ⟨rfl, hJ', hK'⟩
      go_wp2
      exact ⟨⟨k + 1, by omega, by go_num, hJ', hK.trans hK'⟩, by simp [intOf]; omega⟩
    · go_wp2
      go_ret
      obtain rfl : k = n := by omega
      exact ⟨rfl, hJ, hK⟩
end Go.Proofs.YtedljgohmlilgaaGreat
