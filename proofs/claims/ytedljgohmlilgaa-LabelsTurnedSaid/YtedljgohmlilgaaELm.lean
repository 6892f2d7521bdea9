/-
  The walk of Graph.Made.
-/
import Derived.Test.YtedljgohmlilgaaELn
import Derived.Deep.QuietTactic
import Derived.BigQuiet
import Derived.Deep.DeepMust
namespace Go.Proofs.Ytedljgohmlilgaa
open Go.RowKit
set_option linter.unusedVariables false

/-- Pairs of bytes in memory, read alone. -/
structure IsPairs (w : World) (a : Option Addr) (ps : List (Nat × Nat)) : Prop where
  cells : ∀ i, i < ps.length → ∃ b o, a = some ⟨b, o, none⟩ ∧ w.cell? ⟨b, o + i * 2, none⟩ = some (.int .u8 (edge ps i).1) ∧ w.cell? ⟨b, o + i * 2 + 1, none⟩ = some (.int .u8 (edge ps i).2)
theorem IsPairs.ext {w w' : World} {a : Option Addr} {ps : List (Nat × Nat)} (h : IsPairs w a ps) (k : Kept [] w w') : IsPairs w' a ps :=
  ⟨fun i hi => let ⟨b, o, ha, h1, h2⟩ := h.cells i hi; ⟨b, o, ha, k.cell_some h1 (by simp), k.cell_some h2 (by simp)⟩⟩

/-- The edges that pairs of numbers tell. -/
def told (n : Nat) (ps : List (Nat × Nat)) : List (Nat × Nat) := ps.filterMap fun p => if p.1 % n = p.2 % n then none else some (p.1 % n, p.2 % n)
theorem told_length (n : Nat) (ps : List (Nat × Nat)) : (told n ps).length ≤ ps.length := List.length_filterMap_le _ _
theorem told_take (n : Nat) (ps : List (Nat × Nat)) (k : Nat) (h : k < ps.length) : told n (ps.take (k + 1)) = told n (ps.take k) ++ (if (edge ps k).1 % n = (edge ps k).2 % n then [] else [((edge ps k).1 % n, (edge ps k).2 % n)]) := by
  unfold told
  rw [List.take_succ_eq_append_getElem h, List.filterMap_append, edge_eq h]
  congr 1
  simp only [List.filterMap_cons, List.filterMap_nil]
  split <;> rename_i e <;> split at e <;> simp_all
theorem told_good (n : Nat) (hn : 1 ≤ n) (ps : List (Nat × Nat)) : Good n (told n ps) := by
  intro i hi
  rw [edge_eq hi]
  have hm : (told n ps)[i] ∈ told n ps := List.getElem_mem hi
  generalize (told n ps)[i] = x at hm
  unfold told at hm
  obtain ⟨p, _, hp⟩ := List.mem_filterMap.1 hm
  split at hp
  · cases hp
  · cases hp
    exact ⟨Nat.mod_lt _ (by omega), Nat.mod_lt _ (by omega), by assumption⟩

set_option maxRecDepth 100000 in
set_option maxHeartbeats 2000000 in
theorem Made_ok (N : Nat) (a : Option Addr) (c : Nat) (ps : List (Nat × Nat)) (w : World) (h : IsPairs w a ps) (hN : N < 256) (hps : ∀ i, i < ps.length → (edge ps i).1 < 256 ∧ (edge ps i).2 < 256) (hn : ps.length ≤ 300) :
    Calls Try.prog 17 #[.agg #[.int .u8 N, .slice a ps.length c]] w fun e w' => ∃ v, e = .returned (.tuple #[.int .i64 ((1 + N % 60 : Nat) : Int), v]) ∧ Kept [] w w' ∧ IsEdges w' 40 w.heap.size v (normE (told (1 + N % 60) ps)) := by
  have HP := hid hps; clear hps
  obtain ⟨n, hnd⟩ : ∃ n, n = 1 + N % 60 := ⟨_, rfl⟩
  have hn1 : 1 ≤ n := by omega
  have hn2 : n ≤ 60 := by omega
  have ht := hid (show (1 + (N : Int) % 60) = n by omega)
  have HN := hid hnd
  rw [← hnd]; clear hnd
  go_enter Try.func17, Try.ntmps17
  go_wp2
  rw [ht.out]
  have hb0 := obj_alloc_new w (.cells #[.int .u8 N, .slice a ps.length c] 24 (0, 0))
  go_loopw [5, 6, 7, 8] (fun v i _ _ wr => ∃ k : Nat, k ≤ ps.length ∧ i = .int .i64 k ∧ Kept [] w wr ∧ wr.heap[w.heap.size]? = some (.cells #[.int .u8 N, .slice a ps.length c] 24 (0, 0)) ∧ ∃ m, m = (told n (ps.take k)).length ∧ IsEdges wr 40 (w.heap.size + 1) v (told n (ps.take k))) (fun _ i _ _ _ => ps.length - (intOf i).toNat)
  case atStart => exact ⟨0, Nat.zero_le _, rfl, (Kept.refl _ _).alloc _, hb0, _, rfl, ⟨World.ownsRow_nil _ _ _ _⟩⟩
  case round =>
    obtain ⟨k, hk, rfl, hK, hb, _, _, hE⟩ := hrel
    have c1 : wr.cell? ⟨w.heap.size, 1, none⟩ = some (.slice a ps.length c) := cell_of_obj hb 1
    by_cases hlt : k < ps.length
    · obtain ⟨b, o, rfl, q1, q2⟩ := (h.ext hK).cells k hlt
      have hP := HP.out k hlt
      obtain ⟨u, hu⟩ : ∃ u, u = (edge ps k).1 % n := ⟨_, rfl⟩
      obtain ⟨v, hv⟩ : ∃ v, v = (edge ps k).2 % n := ⟨_, rfl⟩
      have hu2 : u < n := by rw [hu]; exact Nat.mod_lt _ (by omega)
      have hv2 : v < n := by rw [hv]; exact Nat.mod_lt _ (by omega)
      have Hu := hid hu
      have Hv := hid hv
      have H := hid (told_take n ps k hlt)
      clear hu hv
      go_wp2_with fail
      go_quiet (fail)
      rw [show ((edge ps k).1 : Int) % n = u by rw [Hu.out]; simp, show ((edge ps k).2 : Int) % n = v by rw [Hv.out]; simp]
      have hKq := hid (hK.drewN nq)
      have hbq := hid (((Kept.refl [] wr).drewN nq).obj hb (by simp))
      have hEq := hid (hE.ext ((Kept.refl [] wr).drewN nq))
      clear hb hE
      by_cases huv : u = v
      · have d1 : ((u : Int) == v) = true := by simp [huv]
        have H2 := hid (show told n (ps.take (k + 1)) = told n (ps.take k) by rw [H.out, if_pos (by rw [← Hu.out, ← Hv.out]; exact huv), List.append_nil])
        clear huv
        go_wp2
        exact ⟨⟨k + 1, by omega, by go_num, hKq.out, hbq.out, _, rfl, by rw [H2.out]; exact hEq.out⟩, by simp [intOf]; omega⟩
      · have d1 : ((u : Int) == v) = false := by simp; omega
        have H2 := hid (show told n (ps.take (k + 1)) = told n (ps.take k) ++ [(u, v)] by rw [H.out, if_neg (by rw [← Hu.out, ← Hv.out]; exact huv), ← Hu.out, ← Hv.out])
        have hlen := hid (told_length n (ps.take k))
        have T1 := hid (show (cellsOf [(u, v)]).length = 1 * 2 by simp [cellsOf])
        have T4 := hid (cellsOf_one [(u, v)])
        have T5 := hid (show (told n (ps.take k)).length + 1 ≤ maxLen by have := hlen.out; unfold maxLen; simp at this; omega)
        have T6 := hid (show ((told n (ps.take k)).length + 1) * 16 ≤ 140737488355328 by have := hlen.out; simp at this; omega)
        clear huv
        go_wp2_with (at_builtin; go_must (refine wpList_append_any rfl (.tmp 44) (.tmp 48) 26 rfl (w.heap.size + 1) 40 (.agg #[.int .i64 0, .int .i64 0]) 2 16 Try.underlying26 info_Edge rfl (by decide) _ _ _ rfl (ownsRow_kept hEq.out.own ((Kept.refl [] _).alloc _) (by simp)) _ _ _ (cellsOf [(u, v)]) rfl T1.out (fun h => nomatch h) news_alloc T4.out T5.out T6.out (show w.heap.size + 1 ≤ _ by have := obj_lt hbq.out; simp at this ⊢; omega) ?_); intro v2 w2 ho2 hg2; have hk4 := hid ((hKq.out.alloc _).grown hg2 (fun k e => .inr (Nat.le_trans (Nat.le_succ _) (hEq.out.own.lt k e).1))); have hb4 := hid (grown_obj (ownsRow_kept hEq.out.own ((Kept.refl [] _).alloc _) (by simp)) hg2 (by omega) (obj_alloc_old hbq.out _)))
        exact ⟨⟨k + 1, by omega, by go_num, hk4.out, hb4.out, _, rfl, by rw [H2.out]; exact IsEdges.of_append ho2 rfl⟩, by simp [intOf]; omega⟩
    · obtain rfl : k = ps.length := by omega
      rw [List.take_length] at hE
      have hlen := hid (told_length n ps)
      go_wp2_with fail
      refine (Normal_ok (w.heap.size + 1) n _ (told n ps) wr hE (by have := hlen.out; omega) hn1 (by omega) (told_good n hn1 ps)).mono ?_
      rintro e w1 ⟨v, rfl, hk1, hE1⟩
      go_wp2
      go_ret2
      exact ⟨_, rfl, hK.trans hk1, ⟨ownsRow_base hE1.own hK.size⟩⟩
end Go.Proofs.Ytedljgohmlilgaa
