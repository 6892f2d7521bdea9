/-
  truth.fill, slices.Repeat.
-/
import Derived.Test.YtedljgohmlilgaaGreatMkS
import Derived.Test.YtedljgohmlilgaaGreatGNorm
import Derived.Laws.CopyOwn
import Derived.RowKit3
import Derived.Deep.RegionHeld3
import Derived.Deep.RegionWith
import Derived.Deep.DeepCutAuto
namespace Go.Proofs.YtedljgohmlilgaaGreat
open Go.RowKit
set_option linter.unusedVariables false
set_option linter.unusedSimpArgs false

/-- A row of 64-bit numbers that stands in one block. -/
def U64s (w : World) (g : Nat) (xs : List Int) : Prop := w.heap[g]? = some (.cells (xs.map (Value.int .u64)).toArray 57 (0, 0))
theorem U64s.cell {w : World} {g : Nat} {xs : List Int} (h : U64s w g xs) {i : Nat} (hi : i < xs.length) : w.cell? ⟨g, i, none⟩ = some (.int .u64 (nth xs i)) := by
  rw [cell_of_obj h]; simp [hi, nth]
theorem U64s.free {w : World} {g : Nat} {xs : List Int} (h : U64s w g xs) (i : Nat) : w.frozen? ⟨g, i, none⟩ = false := frozen_of_obj h i
theorem U64s.kept {S : List Nat} {w w' : World} {g : Nat} {xs : List Int} (h : U64s w g xs) (k : Kept S w w') (hs : g ∉ S) : U64s w' g xs := k.obj h hs
theorem U64s.set {w : World} {g : Nat} {xs : List Int} (h : U64s w g xs) (i : Nat) (v : Int) : U64s (w.setCell ⟨g, i, none⟩ (.int .u64 v)) g (xs.set i v) := by
  unfold U64s
  rw [obj_setCell h]; simp [List.map_set]
theorem U64s.lt {w : World} {g : Nat} {xs : List Int} (h : U64s w g xs) : g < w.heap.size := obj_lt h

theorem info_u64_t : (Tryz.prog.info? 57).map (fun i => (i.zero, i.size, i.bytes)) = some (some (.int .u64 0), 1, 8) := by kernel_rfl
theorem one_u64_t : (Tryz.prog.info? 57).map (·.size) = some 1 := by kernel_rfl

theorem setRow_at {w : World} {g : Nat} {c c' : Array Value} {T : TypeId} {fr : Nat × Nat} (h : w.heap[g]? = some (.cells c T fr)) : (w.setRow g c').heap[g]? = some (.cells c' T fr) := by
  simp [World.setRow, Array.getElem?_modify, h]
theorem Kept.setRow {S : List Nat} {a w : World} (h : Kept S a w) {g : Nat} (hg : g ∈ S ∨ a.heap.size ≤ g) (c : Array Value) : Kept S a (w.setRow g c) :=
  ⟨h.os, h.tape, h.output, Nat.le_trans h.size (by simp [World.setRow]), fun k hk hs => by
    rw [setRow_other w g k c (by rintro rfl; rcases hg with hg | hg; exact hs hg; omega)]
    exact h.block k hk hs⟩

def filled (v : Int) (k n : Nat) : List Int := List.replicate k v ++ zeros (n - k)
theorem filled_length (v : Int) {k n : Nat} (h : k ≤ n) : (filled v k n).length = n := by simp [filled, zeros]; omega
theorem filled_all (v : Int) (n : Nat) : filled v n n = List.replicate n v := by simp [filled, zeros]
theorem filled_cells (v : Int) {k m n : Nat} (h : k ≤ n) (hm : k + m ≤ n) :
    ((((filled v k n).map (Value.int .u64)).toArray.toList.take k ++ (List.replicate m (Value.int .u64 v)) ++ ((filled v k n).map (Value.int .u64)).toArray.toList.drop (k + (List.replicate m (Value.int .u64 v)).length))).toArray = ((filled v (k + m) n).map (Value.int .u64)).toArray := by
  congr 1
  unfold filled zeros
  simp only [List.map_append, List.map_replicate, List.length_replicate]
  rw [List.take_append_of_le_length (by simp), List.take_of_length_le (by simp), List.drop_append]
  simp only [List.length_replicate]
  rw [List.drop_eq_nil_of_le (by simp), List.nil_append, List.drop_replicate, List.replicate_append_replicate]
  congr 2
  omega

set_option maxRecDepth 100000 in
set_option maxHeartbeats 4000000 in
theorem Repeat_ok (n : Nat) (v : Int) (b : Nat) (w : World) (hc : w.cell? ⟨b, 0, none⟩ = some (.int .u64 v)) (hn1 : 1 ≤ n) (hn : n ≤ 256) :
    Calls Tryz.prog 111 #[.slice (some ⟨b, 0, none⟩) 1 1, .int .i64 n] w fun e w' => ∃ g, e = .returned (.slice (some ⟨g, 0, none⟩) n n) ∧ w.heap.size ≤ g ∧ Kept [] w w' ∧ U64s w' g (List.replicate n v) := by
  have hm0 := Tryz.bits_Mul 1 n (by omega) (by omega) w
  rw [show 1 * n / 18446744073709551616 = 0 by omega, show 1 * n % 18446744073709551616 = n by omega] at hm0
  have hm : Calls Tryz.prog 120 #[.int .u64 1, .int .u64 n] w fun e w' => e = .returned (.tuple #[.int .u64 0, .int .u64 n]) ∧ w' = w := hm0
  clear hm0
  have d1 : decide ((n : Int) < 0) = false := by simp
  have d2 : decide ((9223372036854775807 : Int) < n) = false := by simp; omega
  have a1 : IntKind.u64.wrap (n : Int) = n := IntWalk.u64_in _ (by omega)
  have a2 : IntKind.i64.wrap (n : Int) = n := IntWalk.i64_in _ (by omega)
  have hmk := run_make_row' (P := Tryz.prog) 47 57 (.int .u64 0) 8 Tryz.underlying47 info_u64_t rfl .i64 .i64 n (by omega) (by omega)
  obtain ⟨g, hg⟩ : ∃ g, g = w.heap.size := ⟨_, rfl⟩
  obtain ⟨wg, hwg⟩ : ∃ wg, wg = w.alloc (.cells (madeCells #[.int .u64 0] n) 57) := ⟨_, rfl⟩
  have hob : wg.heap[g]? = some (.cells ((filled v 0 n).map (Value.int .u64)).toArray 57 (0, 0)) := by rw [hwg, hg, new_obj rfl, madeCells_ints]; simp [filled]
  have hkg : Kept [] w wg := by rw [hwg]; exact (Kept.refl _ _).alloc _
  have hrun := run_copy_row (P := Tryz.prog) wg 47 47 3 57 g 0 n n ⟨b, 0, none⟩ 1 1 _ 57 (List.replicate 1 (.int .u64 v)) Tryz.underlying47 one_u64_t hob (by rw [List.length_replicate]; exact (Nat.min_eq_left hn1).symm) (fun j u hj => by
      rw [List.getElem?_replicate] at hj
      split at hj
      · obtain rfl : j = 0 := by omega
        cases hj
        rw [add_lit]; exact hkg.cell_some hc (by simp)
      · cases hj) (by simp [filled_length]; omega) (by intro u hu; rw [List.mem_replicate] at hu; rw [hu.2]; rfl)
  rw [filled_cells v (Nat.zero_le n) (by omega)] at hrun
  obtain ⟨w2, hw2⟩ : ∃ w2, w2 = wg.setRow g ((filled v (0 + 1) n).map (Value.int .u64)).toArray := ⟨_, rfl⟩
  have K2 := hid (show Kept [] w w2 by rw [hw2]; exact hkg.setRow (.inr (by omega)) _)
  have U2 := hid (show U64s w2 g (filled v 1 n) by rw [hw2]; exact setRow_at hob)
  have HW := hid hwg
  have HG := hid hg
  have HW2 := hid hw2
  rw [← hw2, List.length_replicate] at hrun
  clear hw2 hob hkg
  rw [hwg, hg] at hrun
  rw [hg] at U2
  clear hwg hg HG HW HW2
  go_enter Tryz.func111, Tryz.ntmps111
  go_wp2_with fail
  refine hm.mono ?_
  rintro e w1 ⟨rfl, rfl⟩
  go_wp2_with fail
  go_loopw [8] (fun u wr => ∃ k : Nat, 1 ≤ k ∧ k ≤ n ∧ u = .int .i64 k ∧ Kept [] w1 wr ∧ U64s wr w1.heap.size (filled v k n)) (fun u _ => n - (intOf u).toNat)
  case atStart => exact ⟨1, by omega, hn1, rfl, K2.out, U2.out⟩
  case round =>
    obtain ⟨k, hk1, hk, rfl, hK, hU⟩ := hrel
    by_cases hlt : k < n
    · obtain ⟨m, hm⟩ : ∃ m, m = Nat.min k (n - k) := ⟨_, rfl⟩
      have hm1 : 1 ≤ m ∧ m ≤ k ∧ m ≤ n - k := by
        have : m = min k (n - k) := hm
        omega
      have hkey : ∀ W : World, U64s W w1.heap.size (filled v k n) → (Builtin.copy_ #[47, 47] 3 #[.slice (some ⟨w1.heap.size, k, none⟩) (n - k) (n - k), .slice (some ⟨w1.heap.size, 0, none⟩) k n]).run Tryz.prog W = .ok (goInt m) (W.setRow w1.heap.size ((filled v (k + m) n).map (Value.int .u64)).toArray) := fun W hW => by
        have hrun := run_copy_row (P := Tryz.prog) W 47 47 3 57 w1.heap.size k (n - k) (n - k) ⟨w1.heap.size, 0, none⟩ k n _ 57 (List.replicate m (.int .u64 v)) Tryz.underlying47 one_u64_t hW (by rw [List.length_replicate]; exact hm) (fun j u hj => by
          rw [List.getElem?_replicate] at hj
          split at hj
          · cases hj
            rw [add_lit, Nat.zero_add, hW.cell (by rw [filled_length v hk]; omega)]
            congr 1
            unfold nth filled
            rw [List.getD_eq_getElem?_getD, List.getElem?_append_left (by simp; omega), List.getElem?_replicate, if_pos (by omega)]
            rfl
          · cases hj) (by simp [filled_length v hk]; omega) (by intro u hu; rw [List.mem_replicate] at hu; rw [hu.2]; rfl)
        rw [filled_cells v hk (by omega), List.length_replicate] at hrun
        exact hrun
      have hr1 := hkey wr hU
      have hr2 := hkey wr.drew hU
      obtain ⟨w4, hw4⟩ : ∃ w4, w4 = wr.setRow w1.heap.size ((filled v (k + m) n).map (Value.int .u64)).toArray := ⟨_, rfl⟩
      have K4 := hid (show Kept [] w1 w4 by rw [hw4]; exact hK.setRow (.inr (by omega)) _)
      have U4 := hid (show U64s w4 w1.heap.size (filled v (k + m) n) by rw [hw4]; exact setRow_at hU)
      have H1 := hid hm1
      clear hkey hK hU hm hm1
      have hw4d : wr.drew.setRow w1.heap.size ((filled v (k + m) n).map (Value.int .u64)).toArray = w4.drew := by rw [hw4]; rfl
      rw [← hw4] at hr1
      rw [hw4d] at hr2
      clear hw4 hw4d
      go_wp2_with fail
      go_region
      all_goals (
        go_wp2
        have hm1 := H1.out
        have hw : wrap64 ((k : Int) + m) = ((k + m : Nat) : Int) := by rw [IntWalk.wrap64_in _ (by omega)]; omega
        rw [hw]
        exact ⟨⟨k + m, by omega, by omega, rfl, K4.out.drew, U4.out.kept ((Kept.refl [] w4).drew) (by simp)⟩, by simp [intOf]; omega⟩)
    · obtain rfl : n = k := by omega
      go_wp2
      go_ret
      exact ⟨_, rfl, Nat.le_refl _, hK, by rw [filled_all] at hU; exact hU⟩

set_option maxRecDepth 100000 in
set_option maxHeartbeats 4000000 in
theorem tfill_ok (n : Nat) (v : Int) (w : World) (hn1 : 1 ≤ n) (hn : n ≤ 256) :
    Calls Tryz.prog 75 #[.int .i64 n, .int .u64 v] w fun e w' => ∃ g, e = .returned (.slice (some ⟨g, 0, none⟩) n n) ∧ w.heap.size ≤ g ∧ Kept [] w w' ∧ U64s w' g (List.replicate n v) := by
  go_enter Tryz.func75, Tryz.ntmps75
  go_wp2_with fail
  have hk : Kept [] w (w.alloc (.cells #[.int .u64 v] 57)) := (Kept.refl _ _).alloc _
  refine (Repeat_ok n v w.heap.size _ (new_cell rfl) hn1 hn).mono ?_
  rintro e w1 ⟨g, rfl, hg, hk1, hu⟩
  have hg' : w.heap.size ≤ g := by simp at hg; omega
  have HK := hid (hk.trans hk1)
  have HU := hid hu
  clear hk hk1 hu
  go_wp2
  go_ret
  exact ⟨g, rfl, hg', HK.out, HU.out⟩
end Go.Proofs.YtedljgohmlilgaaGreat
