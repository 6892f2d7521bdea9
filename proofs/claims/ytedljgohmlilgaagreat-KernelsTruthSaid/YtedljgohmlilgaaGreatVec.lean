/-
  The walks of package vectors: a row of numbers in memory.
-/
import Derived.Test.YtedljgohmlilgaaGreatProg
import Derived.Test.YtedljgohmlilgaaGreatW
import Derived.WalkSpells
import Derived.WalkLawsBesides
import Derived.KernelRfl
namespace Go.Proofs.YtedljgohmlilgaaGreat
set_option linter.unusedVariables false
open Go.RowKit

abbrev Two (w : World) (a ga b gb : Nat) (xs ys : List Int) : Prop := Pair w 82 57 a ga b gb xs ys
abbrev Vec (w : World) (b g : Nat) (xs : List Int) : Prop := IsVec w 82 57 b g xs

set_option maxHeartbeats 400000 in
theorem at_ok (b g : Nat) (xs : List Int) (i : Nat) (w : World) (h : Vec w b g xs) (hi : i < xs.length) (hn : xs.length ≤ 256) :
    Calls Tryz.prog 156 #[.pointer (some ⟨b, 0, none⟩), .int .i64 i] w fun e w' => e = .returned (.tuple #[.pointer (some ⟨g, i, none⟩), .int .i64 0]) ∧ w = w' := by
  have h0 := h.c0
  have h1 := h.c1
  go_enter Tryz.func156, Tryz.ntmps156
  go_wp2
  go_ret2
  exact ⟨rfl, rfl⟩

set_option maxHeartbeats 400000 in
theorem Get_ok (b g : Nat) (xs : List Int) (i : Nat) (w : World) (h : Vec w b g xs) (hi : i < xs.length) (hn : xs.length ≤ 256) :
    Calls Tryz.prog 153 #[.pointer (some ⟨b, 0, none⟩), .int .i64 i] w fun e w' => e = .returned (.tuple #[.int .u64 (nth xs i), .int .i64 0]) ∧ w = w' := by
  have h0 := h.cell hi
  go_enter Tryz.func153, Tryz.ntmps153
  go_wp2_with (go_at_call 156; refine (at_ok b g xs i _ h hi hn).mono ?_; rintro e w' ⟨rfl, rfl⟩)
  go_ret2
  exact ⟨rfl, rfl⟩

set_option maxHeartbeats 400000 in
theorem Set_ok (b g : Nat) (xs : List Int) (i : Nat) (v : Int) (w : World) (h : Vec w b g xs) (hi : i < xs.length) (hn : xs.length ≤ 256) :
    Calls Tryz.prog 155 #[.pointer (some ⟨b, 0, none⟩), .int .i64 i, .int .u64 v] w fun e w' => e = .returned (.int .i64 0) ∧ Kept [g] w w' ∧ Vec w' b g (xs.set i v) := by
  have h0 := h.cell hi
  have hf := h.free i
  go_enter Tryz.func155, Tryz.ntmps155
  go_wp2_with (go_at_call 156; refine (at_ok b g xs i _ h hi hn).mono ?_; rintro e w' ⟨rfl, rfl⟩)
  go_ret
  exact ⟨rfl, (Kept.refl _ _).setCell (.inl (by simp)) _, h.set i v⟩

set_option maxHeartbeats 400000 in
theorem Len_ok (b g : Nat) (xs : List Int) (w : World) (h : Vec w b g xs) :
    Calls Tryz.prog 154 #[.pointer (some ⟨b, 0, none⟩)] w fun e w' => e = .returned (.int .i64 xs.length) ∧ w = w' := by
  have h1 := h.c1
  go_enter Tryz.func154, Tryz.ntmps154
  go_wp2
  go_ret
  exact ⟨rfl, rfl⟩

theorem info_u64 : (Tryz.prog.info? 57).map (fun i => (i.zero, i.size, i.bytes)) = some (some (.int .u64 0), 1, 8) := by kernel_rfl

set_option maxHeartbeats 400000 in
theorem New_ok (n : Nat) (w : World) (hn : n ≤ 256) :
    Calls Tryz.prog 18 #[.int .i64 n] w fun e w' => e = .returned (.tuple #[.pointer (some ⟨w.heap.size + 1, 0, none⟩), .int .i64 0]) ∧ Kept [] w w' ∧ Vec w' (w.heap.size + 1) w.heap.size (zeros n) ∧ w'.heap.size = w.heap.size + 2 := by
  have hmk := run_make_row' (P := Tryz.prog) 47 57 (.int .u64 0) 8 Tryz.underlying47 info_u64 rfl .i64 .i64 n (by omega) (by omega)
  go_enter Tryz.func18, Tryz.ntmps18
  go_wp2
  go_ret2
  refine ⟨?_, ?_, ?_, ?_⟩
  · simp
  · exact ((Kept.refl _ _).alloc _).alloc _
  · refine ⟨?_, ?_⟩
    · have := obj_alloc_new (w.alloc (.cells (madeCells #[.int .u64 0] n) 57)) (.cells #[.bool true, .slice (some ⟨w.heap.size, 0, none⟩) n n] 82 (0, 0))
      rw [World.size_alloc] at this
      rw [zeros_length]; exact this
    · refine obj_alloc_old ?_ _
      rw [← madeCells_ints]
      exact obj_alloc_new _ _
  · simp
end Go.Proofs.YtedljgohmlilgaaGreat
