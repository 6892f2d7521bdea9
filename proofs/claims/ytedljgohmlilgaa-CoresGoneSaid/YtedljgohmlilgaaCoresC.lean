/-
  The walk of cores.Commit's closure.
-/
import Derived.Test.YtedljgohmlilgaaBfsC
namespace Go.Proofs.Ytedljgohmlilgaa
open Go.RowKit
set_option linter.unusedVariables false

theorem enters_coresCommit1 : Enters 72 := ⟨fun _ _ => by kernel_rfl⟩

set_option maxRecDepth 100000 in
set_option maxHeartbeats 1000000 in
theorem coresCommit1_goes (a b ga gb pk pc pr pd : Nat) (arg : Nat) (harg : arg ≤ 1000000) (xs ys : List Int) (i : Nat) (w : World) (h : Two w a ga b gb xs ys) (hi : i < xs.length) (hi2 : i < ys.length) (hn : xs.length ≤ 256) (hm : ys.length ≤ 256) (dn : Bool)
    (h1 : Box w [ga, gb, pd] pc (vec a)) (h2 : Box w [ga, gb, pd] pk (vec b)) (h3 : Box w [ga, gb, pd] pr (.int .i64 arg)) (hb : w.heap[pd]? = some (.cells #[.bool dn] 4 (0, 0))) (hpd : pd ≠ a ∧ pd ≠ ga ∧ pd ≠ b ∧ pd ≠ gb) (e1 : nth xs i ≠ 0) (e2 : 0 < arg) (e3 : nth ys i < arg) :
    Calls Try.prog 72 #[.int .i64 i, .pointer (some ⟨pc, 0, none⟩), .pointer (some ⟨pk, 0, none⟩), .pointer (some ⟨pr, 0, none⟩), .pointer (some ⟨pd, 0, none⟩)] w fun e w' => e = .returned (.int .i64 0) ∧ Round [ga, gb, pd] w w' a ga b gb (xs.set i 0) (ys.set i 0) pd false := by
  have mS := m_Set
  have c1 := h1.cell
  have c2 := h2.cell
  have c3 := h3.cell
  have wa : IntKind.u64.wrap (arg : Int) = arg := u64_in (by omega) (by omega)
  have d1 : (nth xs i != (0 : Int)) = true := by simp [e1]
  have d1' : (nth xs i == (0 : Int)) = false := by simp [e1]
  have hd : w.cell? ⟨pd, 0, none⟩ = some (.bool dn) := cell_of_obj hb 0
  have hf : w.frozen? ⟨pd, 0, none⟩ = false := frozen_of_obj hb 0
  have hk3 : Kept [pd] w (w.setCell ⟨pd, 0, none⟩ (.bool false)) := (Kept.refl _ _).setCell (by simp) _
  have c1' := (h1.kept hk3 (by simp)).cell
  have h2' := h2.kept hk3 (by simp)
  have h' := h.kept hk3 (by simp; omega)
  have hd3 : (w.setCell ⟨pd, 0, none⟩ (.bool false)).heap[pd]? = some (.cells #[.bool false] 4 (0, 0)) := obj_setCell hb 0 _
  clear e1
  go_enter Try.func72, Try.ntmps72
  go_wp2_with fail
  refine (Two_ok a b ga gb xs ys i _ h.cur h.acc hi hi2 hn hm).mono ?_; rintro e w' ⟨rfl, rfl⟩
  go_wp2_with fail
  refine (Set_ok a ga xs i 0 _ h'.cur hi hn).mono ?_; rintro e w2 ⟨rfl, hk, hq⟩
  have h4 := h'.setCur hk hq
  have c2' := (h2'.kept hk (by simp)).cell
  go_wp2_with fail
  refine (Set_ok b gb ys i 0 _ h4.acc hi2 hm).mono ?_; rintro e w4 ⟨rfl, hk4, hq4⟩
  go_wp2
  go_ret
  exact ⟨rfl, ((hk3.to (by simp)).trans (hk.to (by simp))).trans (hk4.to (by simp)), h4.setAcc hk4 hq4, hk4.obj (hk.obj hd3 (by simp; omega)) (by simp; omega)⟩

set_option maxRecDepth 100000 in
set_option maxHeartbeats 1000000 in
theorem coresCommit1_stays (a b ga gb pk pc pr pd : Nat) (arg : Nat) (harg : arg ≤ 1000000) (xs ys : List Int) (i : Nat) (w : World) (h : Two w a ga b gb xs ys) (hi : i < xs.length) (hi2 : i < ys.length) (hn : xs.length ≤ 256) (hm : ys.length ≤ 256) (dn : Bool)
    (h1 : Box w [ga, gb, pd] pc (vec a)) (h2 : Box w [ga, gb, pd] pk (vec b)) (h3 : Box w [ga, gb, pd] pr (.int .i64 arg)) (hb : w.heap[pd]? = some (.cells #[.bool dn] 4 (0, 0))) (hpd : pd ≠ a ∧ pd ≠ ga ∧ pd ≠ b ∧ pd ≠ gb) (hg : coresGoes arg xs ys i = false) :
    Calls Try.prog 72 #[.int .i64 i, .pointer (some ⟨pc, 0, none⟩), .pointer (some ⟨pk, 0, none⟩), .pointer (some ⟨pr, 0, none⟩), .pointer (some ⟨pd, 0, none⟩)] w fun e w' => e = .returned (.int .i64 0) ∧ Round [ga, gb, pd] w w' a ga b gb xs (ys.set i 0) pd dn := by
  have mS := m_Set
  have c1 := h1.cell
  have c2 := h2.cell
  have c3 := h3.cell
  have wa : IntKind.u64.wrap (arg : Int) = arg := u64_in (by omega) (by omega)
  by_cases e1 : nth xs i = 0
  · have d1 : (nth xs i != (0 : Int)) = false := by simp [e1]
    have d1' : (nth xs i == (0 : Int)) = true := by simp [e1]
    clear e1 hg
    go_enter Try.func72, Try.ntmps72
    go_wp2_with fail
    refine (Two_ok a b ga gb xs ys i _ h.cur h.acc hi hi2 hn hm).mono ?_; rintro e w' ⟨rfl, rfl⟩
    go_wp2_with fail
    refine (Set_ok b gb ys i 0 _ h.acc hi2 hm).mono ?_; rintro e w4 ⟨rfl, hk4, hq4⟩
    go_wp2
    go_ret
    exact ⟨rfl, hk4.to (by simp), h.setAcc hk4 hq4, hk4.obj hb (by simp; omega)⟩
  · have d1 : (nth xs i != (0 : Int)) = true := by simp [e1]
    have d1' : (nth xs i == (0 : Int)) = false := by simp [e1]
    by_cases e2 : 0 < arg
    · have e3 : (arg : Int) ≤ nth ys i := by simp [coresGoes, e1, e2] at hg; omega
      have d3 : decide (nth ys i < (arg : Int)) = false := by simp; omega
      clear e1 hg
      go_enter Try.func72, Try.ntmps72
      go_wp2_with fail
      refine (Two_ok a b ga gb xs ys i _ h.cur h.acc hi hi2 hn hm).mono ?_; rintro e w' ⟨rfl, rfl⟩
      go_wp2_with fail
      refine (Set_ok b gb ys i 0 _ h.acc hi2 hm).mono ?_; rintro e w4 ⟨rfl, hk4, hq4⟩
      go_wp2
      go_ret
      exact ⟨rfl, hk4.to (by simp), h.setAcc hk4 hq4, hk4.obj hb (by simp; omega)⟩
    · have d2 : decide (0 < (arg : Int)) = false := by simp; omega
      have d2' : decide (0 < arg) = false := by simp; omega
      clear e1 hg
      go_enter Try.func72, Try.ntmps72
      go_wp2_with fail
      refine (Two_ok a b ga gb xs ys i _ h.cur h.acc hi hi2 hn hm).mono ?_; rintro e w' ⟨rfl, rfl⟩
      go_wp2_with fail
      refine (Set_ok b gb ys i 0 _ h.acc hi2 hm).mono ?_; rintro e w4 ⟨rfl, hk4, hq4⟩
      go_wp2
      go_ret
      exact ⟨rfl, hk4.to (by simp), h.setAcc hk4 hq4, hk4.obj hb (by simp; omega)⟩

theorem coresCommit1_ok (a b ga gb pk pc pr pd : Nat) (arg : Nat) (harg : arg ≤ 1000000) (xs ys : List Int) (i : Nat) (w : World) (h : Two w a ga b gb xs ys) (hi : i < xs.length) (hi2 : i < ys.length) (hn : xs.length ≤ 256) (hm : ys.length ≤ 256) (dn : Bool)
    (h1 : Box w [ga, gb, pd] pc (vec a)) (h2 : Box w [ga, gb, pd] pk (vec b)) (h3 : Box w [ga, gb, pd] pr (.int .i64 arg)) (hb : w.heap[pd]? = some (.cells #[.bool dn] 4 (0, 0))) (hpd : pd ≠ a ∧ pd ≠ ga ∧ pd ≠ b ∧ pd ≠ gb) :
    Calls Try.prog 72 #[.int .i64 i, .pointer (some ⟨pc, 0, none⟩), .pointer (some ⟨pk, 0, none⟩), .pointer (some ⟨pr, 0, none⟩), .pointer (some ⟨pd, 0, none⟩)] w fun e w' => e = .returned (.int .i64 0) ∧ Round [ga, gb, pd] w w' a ga b gb (xs.set i (coresCur arg xs ys i)) (ys.set i 0) pd (dn && coresSame arg xs ys i) := by
  by_cases hg : coresGoes arg xs ys i = true
  · have hg' := hg
    simp [coresGoes] at hg'
    refine (coresCommit1_goes a b ga gb pk pc pr pd arg harg xs ys i w h hi hi2 hn hm dn h1 h2 h3 hb hpd hg'.1.1 hg'.1.2 hg'.2).mono fun e w' ⟨h1, h2⟩ => ?_
    rw [show coresCur arg xs ys i = 0 by simp [coresCur, hg], show coresSame arg xs ys i = false by simp [coresSame, hg], Bool.and_false]
    exact ⟨h1, h2⟩
  · have hg' : coresGoes arg xs ys i = false := by simpa using hg
    refine (coresCommit1_stays a b ga gb pk pc pr pd arg harg xs ys i w h hi hi2 hn hm dn h1 h2 h3 hb hpd hg').mono fun e w' ⟨h1, h2⟩ => ?_
    rw [show coresCur arg xs ys i = nth xs i by simp [coresCur, hg'], set_nth, show coresSame arg xs ys i = true by simp [coresSame, hg'], Bool.and_true]
    exact ⟨h1, h2⟩
end Go.Proofs.Ytedljgohmlilgaa
