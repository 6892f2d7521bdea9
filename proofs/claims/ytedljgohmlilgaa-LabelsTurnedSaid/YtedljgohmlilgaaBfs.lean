/-
  The walks of package bfs.
-/
import Derived.Test.YtedljgohmlilgaaEdges
import Derived.Test.YtedljgohmlilgaaPure
import Derived.Deep.QuietTactic
import Derived.BigQuiet
namespace Go.Proofs.Ytedljgohmlilgaa
open Go.RowKit
set_option linter.unusedVariables false

theorem u64_in {x : Int} (h0 : 0 ≤ x) (h1 : x < 18446744073709551616) : IntKind.u64.wrap x = x := by
  simp [IntKind.wrap, IntKind.bits, IntKind.signed]; omega
theorem u64_word (x : Int) : IntKind.u64.wrap x = word x := by simp [IntKind.wrap, IntKind.bits, IntKind.signed, word]

/-- A callee that leaves the world alone, met in a region that draws its order. -/
theorem quiet_same {P : Program} {f : FuncId} {args : Array Value} {w : World} {n : Nat} {v : Value}
    (h : Calls P f args (w.drewN n) fun e w' => e = .returned v ∧ w.drewN n = w') : Calls P f args (w.drewN n) fun e w'' => e = .returned v ∧ ∃ m, w'' = w.drewN m :=
  Calls.quiet_of_same (h.mono fun _ _ ⟨he, hw⟩ => ⟨he, hw.symm⟩)

theorem enters_bfsBegin1 : Enters 66 := ⟨fun _ _ => by kernel_rfl⟩

set_option maxRecDepth 100000 in
set_option maxHeartbeats 1000000 in
theorem bfsBegin1_ok (a b ga gb pa pc pk : Nat) (xs ys : List Int) (arg j : Nat) (w : World) (h : Two w a ga b gb xs ys) (hj : j < xs.length) (hj2 : j < ys.length) (hn : xs.length ≤ 256) (hm : ys.length ≤ 256)
    (h1 : Box w [ga, gb] pa (.int .i64 arg)) (h2 : Box w [ga, gb] pc (vec a)) (h3 : Box w [ga, gb] pk (vec b)) :
    Calls Try.prog 66 #[.int .i64 j, .pointer (some ⟨pa, 0, none⟩), .pointer (some ⟨pc, 0, none⟩), .pointer (some ⟨pk, 0, none⟩)] w fun e w' => e = .returned (.int .i64 0) ∧ Kept [ga, gb] w w' ∧ Two w' a ga b gb (xs.set j (farBut arg j)) (ys.set j far) := by
  have mS := m_Set
  have c1 := h1.cell
  have c2 := h2.cell
  have c3 := h3.cell
  by_cases he : arg = j
  · subst he
    have H := hid (show farBut arg arg = 0 by simp [farBut])
    go_enter Try.func66, Try.ntmps66
    go_wp2_with fail
    refine (Set_ok a ga xs arg _ _ h.cur hj hn).mono ?_; rintro e w' ⟨rfl, hk, hv⟩
    have c3' := (h3.kept hk (by simp)).cell
    go_wp2_with fail
    have h' := h.setCur hk hv
    refine (Set_ok b gb ys arg _ _ h'.acc hj2 hm).mono ?_; rintro e w' ⟨rfl, hk', hv'⟩
    go_wp2
    go_ret
    refine ⟨rfl, (hk.to (by simp)).trans (hk'.to (by simp)), ?_⟩
    rw [H.out]; exact h'.setAcc hk' hv'
  · have H := hid (show farBut arg j = far by simp [farBut, he])
    have he' : ((j : Int) == arg) = false := by simp; omega
    go_enter Try.func66, Try.ntmps66
    go_wp2_with fail
    refine (Set_ok a ga xs j _ _ h.cur hj hn).mono ?_; rintro e w' ⟨rfl, hk, hv⟩
    have c3' := (h3.kept hk (by simp)).cell
    go_wp2_with fail
    have h' := h.setCur hk hv
    refine (Set_ok b gb ys j _ _ h'.acc hj2 hm).mono ?_; rintro e w' ⟨rfl, hk', hv'⟩
    go_wp2
    go_ret
    refine ⟨rfl, (hk.to (by simp)).trans (hk'.to (by simp)), ?_⟩
    rw [H.out]; exact h'.setAcc hk' hv'
end Go.Proofs.Ytedljgohmlilgaa
