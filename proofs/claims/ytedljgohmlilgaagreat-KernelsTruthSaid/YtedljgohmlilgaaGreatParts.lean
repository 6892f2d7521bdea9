/-
  The walk of parts.Cut.
-/
import Derived.Test.YtedljgohmlilgaaGreatGEL
namespace Go.Proofs.YtedljgohmlilgaaGreat
open Go.RowKit
set_option linter.unusedVariables false

theorem info_Part : (Tryz.prog.info? 40).map (fun i => (i.zero, i.size, i.bytes)) = some (some (.agg #[.int .i64 0, .int .i64 0]), 2, 16) := by kernel_rfl

def cutAt (n s k : Nat) : Nat × Nat := (k * n / s, (k + 1) * n / s)
def cuts (n s : Nat) : List (Nat × Nat) := (List.range s).map (cutAt n s)
/-- So many places told, the others nought. -/
def cutsTo (n s k : Nat) : List (Nat × Nat) := (List.range s).map fun i => if i < k then cutAt n s i else (0, 0)
theorem cutsTo_length (n s k : Nat) : (cutsTo n s k).length = s := by simp [cutsTo]
theorem cutsTo_all (n s : Nat) : cutsTo n s s = cuts n s := by
  unfold cutsTo cuts
  apply List.map_congr_left
  intro i hi
  rw [if_pos (List.mem_range.1 hi)]
theorem cutsTo_set (n s k : Nat) (h : k < s) : (cutsTo n s k).set k (cutAt n s k) = cutsTo n s (k + 1) := by
  apply List.ext_getElem
  · simp [cutsTo]
  · intro i h1 h2
    simp only [cutsTo, List.length_set, List.length_map, List.length_range] at h1
    rw [List.getElem_set]
    simp only [cutsTo, List.getElem_map, List.getElem_range]
    by_cases e : k = i
    · subst e; simp
    · rw [if_neg e]
      by_cases h3 : i < k
      · rw [if_pos h3, if_pos (by omega)]
      · rw [if_neg h3, if_neg (by omega)]
theorem cells_set2 (es : List (Nat × Nat)) (k : Nat) (x : Nat × Nat) : ((cellsOf es).toArray.setIfInBounds (k * 2) (.int .i64 x.1)).setIfInBounds (k * 2 + 1) (.int .i64 x.2) = (cellsOf (es.set k x)).toArray := by
  rw [List.setIfInBounds_toArray, List.setIfInBounds_toArray]
  congr 1
  induction es generalizing k with
  | nil => simp [cellsOf]
  | cons e es ih =>
    have e1 : ∀ e es, (cellsOf (e :: es)) = [.int .i64 e.1, .int .i64 e.2] ++ cellsOf es := fun e es => by simp [cellsOf, List.flatMap_cons]
    cases k with
    | zero => simp [e1]
    | succ k =>
      rw [List.set_cons_succ, e1, e1, ← ih, show (k + 1) * 2 = k * 2 + 1 + 1 by omega]
      simp
theorem made_zero (n : Nat) : madeCells #[.int .i64 0, .int .i64 0] (n * 2) = (cellsOf (List.replicate n (0, 0))).toArray := by
  apply Array.ext
  · simp [madeCells, cellsOf_length]
  · intro i h1 h2
    have hi : i < n * 2 := by simpa [madeCells] using h1
    have key : (cellsOf (List.replicate n (0, 0)))[i]? = some (.int .i64 0) := by
      have h := cellsOf_at (List.replicate n (0, 0)) (i / 2) (by simp; omega)
      have e : edge (List.replicate n (0, 0)) (i / 2) = (0, 0) := by rw [edge_eq (by simp; omega)]; simp
      rw [e] at h
      rcases Nat.mod_two_eq_zero_or_one i with hm | hm
      · rw [show i = i / 2 * 2 by omega]; exact h.1
      · rw [show i = i / 2 * 2 + 1 by omega]; exact h.2
    have e2 : (madeCells #[.int .i64 0, .int .i64 0] (n * 2))[i] = .int .i64 0 := by
      simp only [madeCells, Array.getElem_map, Array.getElem_range]
      rcases Nat.mod_two_eq_zero_or_one i with hm | hm <;> simp [hm]
    rw [e2]
    obtain ⟨h3, h4⟩ := List.getElem?_eq_some_iff.1 key
    simpa using h4.symm

set_option maxRecDepth 100000 in
set_option maxHeartbeats 2000000 in
theorem Cut_ok (n s : Nat) (w : World) (h1 : 1 ≤ n) (h2 : n ≤ 256) (h3 : 1 ≤ s) (h4 : s ≤ n) (h5 : s ≤ 16) :
    Calls Tryz.prog 15 #[.int .i64 n, .int .i64 s] w fun e w' => e = .returned (.tuple #[.slice (some ⟨w.heap.size, 0, none⟩) s s, .int .i64 0]) ∧ Kept [] w w' ∧ w'.heap[w.heap.size]? = some (.cells (cellsOf (cuts n s)).toArray 40 (0, 0)) := by
  have hmk : ∀ w : World, (Instr.makeSlice 62 (.int .i64 (s : Int)) (.int .i64 (s : Int))).run Tryz.prog w = .ok (.slice (some ⟨w.heap.size, 0, none⟩) s s) (w.alloc (.cells (cellsOf (List.replicate s (0, 0))).toArray 40)) := fun w => by
    obtain ⟨i, hi, hzz⟩ := Option.map_eq_some_iff.1 info_Part
    simp only [Prod.mk.injEq] at hzz
    obtain ⟨hz, hsi, hb⟩ := hzz
    have := run_make (P := Tryz.prog) w 62 40 i _ Tryz.underlying62 hi hz .i64 .i64 s s (by omega) (by omega) (by rw [hb]; omega) (by omega)
    rw [hsi] at this
    rw [this, ← made_zero]
    simp [Value.cells]
  have d1 : decide ((n : Int) < 1) = false := by simp; omega
  have d2 : decide ((256 : Int) < n) = false := by simp; omega
  have d3 : decide ((s : Int) < 1) = false := by simp; omega
  have HR := hid (show cellsOf (List.replicate s (0, 0)) = cellsOf (cutsTo n s 0) by
    congr 1
    apply List.ext_getElem
    · simp [cutsTo]
    · intro i h1 h2; simp [cutsTo])
  have hm : (16 : Int) < n ∧ decide ((16 : Int) < s) = false ∨ ¬ (16 : Int) < n ∧ decide (n < s) = false := by
    rcases Decidable.em ((16 : Int) < n) with h | h
    · exact .inl ⟨h, by simp; omega⟩
    · exact .inr ⟨h, by simp; omega⟩
  rcases hm with ⟨m1, m2⟩ | ⟨m1, m2⟩
  all_goals
    go_enter Tryz.func15, Tryz.ntmps15
    go_wp2
    go_loopw [7, 28] (fun _ i wr => ∃ k : Nat, k ≤ s ∧ i = .int .i64 k ∧ Kept [] w wr ∧ wr.heap[w.heap.size]? = some (.cells (cellsOf (cutsTo n s k)).toArray 40 (0, 0))) (fun _ i _ => s - (intOf i).toNat)
    case atStart => exact ⟨0, Nat.zero_le _, rfl, (Kept.refl _ _).alloc _, by rw [HR.out]; exact obj_alloc_new w _⟩
    case round =>
      obtain ⟨k, hk, rfl, hK, hb⟩ := hrel
      by_cases hlt : k < s
      · have hkn : k * n ≤ 16 * 256 := Nat.mul_le_mul (by omega) (by omega)
        have hkn2 : (k + 1) * n ≤ 16 * 256 := Nat.mul_le_mul (by omega) (by omega)
        obtain ⟨p, hp⟩ : ∃ p, p = k * n := ⟨_, rfl⟩
        obtain ⟨p', hp'⟩ : ∃ p', p' = (k + 1) * n := ⟨_, rfl⟩
        obtain ⟨q, hq⟩ : ∃ q, q = p / s := ⟨_, rfl⟩
        obtain ⟨q', hq'⟩ : ∃ q', q' = p' / s := ⟨_, rfl⟩
        have hql : q ≤ p := by rw [hq]; exact Nat.div_le_self _ _
        have hql' : q' ≤ p' := by rw [hq']; exact Nat.div_le_self _ _
        have a1 : IntKind.i64.wrap ((k : Int) * n) = p := by rw [hp, ← Int.natCast_mul]; exact IntWalk.i64_in _ (by omega)
        have a0 : IntKind.i64.wrap ((k : Int) + 1) = ((k + 1 : Nat) : Int) := by rw [IntWalk.i64_in _ (by omega)]; omega
        have a1' : IntKind.i64.wrap (((k : Int) + 1) * n) = p' := by rw [hp', show ((k : Int) + 1) = ((k + 1 : Nat) : Int) by omega, ← Int.natCast_mul]; exact IntWalk.i64_in _ (by omega)
        have a2 : IntKind.i64.wrap (Int.tdiv (p : Int) s) = q := by rw [Int.tdiv_eq_ediv_of_nonneg (by omega), ← Int.natCast_ediv, ← hq]; exact IntWalk.i64_in _ (by omega)
        have a2' : IntKind.i64.wrap (Int.tdiv (p' : Int) s) = q' := by rw [Int.tdiv_eq_ediv_of_nonneg (by omega), ← Int.natCast_ediv, ← hq']; exact IntWalk.i64_in _ (by omega)
        have a3 := hid (show wrap64 ((p : Int) / s) = q by rw [← Int.natCast_ediv, ← hq]; unfold wrap64; omega)
        have a3' := hid (show wrap64 ((p' : Int) / s) = q' by rw [← Int.natCast_ediv, ← hq']; unfold wrap64; omega)
        have HC := hid (show cutAt n s k = (q, q') by simp [cutAt, hq, hq', hp, hp'])
        have s0 : ¬ s = 0 := by omega
        have hcc := cellsOf_at (cutsTo n s k) k (by rw [cutsTo_length]; exact hlt)
        have cc1 : wr.cell? ⟨w.heap.size, k * 2, none⟩ = some (.int .i64 (edge (cutsTo n s k) k).1) := by rw [cell_of_obj hb]; simpa using hcc.1
        have cc2 : wr.cell? ⟨w.heap.size, k * 2 + 1, none⟩ = some (.int .i64 (edge (cutsTo n s k) k).2) := by rw [cell_of_obj hb]; simpa using hcc.2
        have f1 : ∀ i, wr.frozen? ⟨w.heap.size, i, none⟩ = false := fun i => frozen_of_obj hb i
        have hb' := hid hb
        clear hb hp hp' hq hq' hcc hkn hkn2
        go_wp2_with fail
        go_region
        rw [a3.out, a3'.out]
        have hk2 : Kept [] w (((wr.setCell ⟨w.heap.size, k * 2, none⟩ (.int .i64 q)).setCell ⟨w.heap.size, k * 2 + 1, none⟩ (.int .i64 q')).drew) := ((hK.setCell (.inr (Nat.le_refl _)) _).setCell (.inr (Nat.le_refl _)) _).drew
        have hb2 : (((wr.setCell ⟨w.heap.size, k * 2, none⟩ (.int .i64 q)).setCell ⟨w.heap.size, k * 2 + 1, none⟩ (.int .i64 q')).drew).heap[w.heap.size]? = some (.cells (cellsOf (cutsTo n s (k + 1))).toArray 40 (0, 0)) := by
          have := obj_setCell (obj_setCell hb'.out (k * 2) (.int .i64 q)) (k * 2 + 1) (.int .i64 q')
          rw [← cutsTo_set n s k hlt, HC.out, ← cells_set2]
          exact this
        have hk2 := hid hk2
        have hb2 := hid hb2
        go_wp2
        exact ⟨⟨k + 1, by omega, by go_num, hk2.out, hb2.out⟩, by simp [intOf]; omega⟩
      · go_wp2
        go_ret2
        obtain rfl : k = s := by omega
        rw [cutsTo_all] at hb
        exact ⟨rfl, hK, hb⟩
end Go.Proofs.YtedljgohmlilgaaGreat
