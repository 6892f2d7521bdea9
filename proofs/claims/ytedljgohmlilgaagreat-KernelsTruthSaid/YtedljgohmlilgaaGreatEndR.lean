/-
  The walk of carousellaw18.ends.
-/
import Derived.Test.YtedljgohmlilgaaGreatGNorm
import Derived.Test.YtedljgohmlilgaaGreatGRank
namespace Go.Proofs.YtedljgohmlilgaaGreat
open Go.RowKit
set_option linter.unusedVariables false

set_option maxRecDepth 100000 in
set_option maxHeartbeats 1000000 in
theorem rankBegin_no (a b ga gb : Nat) (xs ys : List Int) (w : World) (h : Two w a ga b gb xs ys) (hl : ys.length = xs.length) (hn : xs.length ≤ 256) (h1 : 1 ≤ xs.length) :
    Calls Tryz.prog 50 #[vec a, vec b, .int .i64 65] w fun e w' => e = .returned (.int .i64 2) ∧ Kept [] w w' := by
  have mL := m_Len
  have HL := hid hl; clear hl
  go_enter Tryz.func50, Tryz.ntmps50
  go_wp2_with fail
  have hk0 : Kept [] w ((w.alloc (.cells #[vec a] 152)).alloc (.cells #[vec b] 152)) := ((Kept.refl _ _).alloc _).alloc _
  have h0 := h.ext hk0
  refine (Check_ok a b ga gb xs ys _ h0.cur h0.acc h1 hn HL.out).mono ?_
  rintro e w1 ⟨rfl, hw⟩
  rw [hw] at hk0
  clear hw
  go_wp2_with fail
  go_ret
  exact ⟨rfl, hk0⟩

/-- Two literal rows. -/
theorem out_of {w : World} {L : List Nat} {bo : Nat} {T : TypeId} {vals : List Value} {rows : List (List Nat)} (ho : w.heap[bo]? = some (.cells vals.toArray T (0, 0))) (hb : bo ∉ L) (hl : vals.length = rows.length)
    (h : ∀ i, i < rows.length → ∃ u c, vals[i]? = some (.slice u (row rows i).length c) ∧ IsNats w L u (row rows i)) : IsOut w L (some ⟨bo, 0, none⟩) rows := by
  refine ⟨fun i hi => ⟨bo, 0, rfl, hb, ?_⟩⟩
  obtain ⟨u, c, h1, h2⟩ := h i hi
  exact ⟨u, c, by rw [cell_of_obj ho]; simpa using h1, h2⟩
theorem nats_nil {w : World} {L : List Nat} {a : Option Addr} : IsNats w L a [] := ⟨fun i hi => by simp at hi⟩
theorem nats_of {w : World} {L : List Nat} {b : Nat} {T : TypeId} {xs : List Nat} (ho : w.heap[b]? = some (.cells (intCells xs).toArray T (0, 0))) (hb : b ∉ L) : IsNats w L (some ⟨b, 0, none⟩) xs := by
  refine ⟨fun i hi => ⟨b, 0, rfl, hb, ?_⟩⟩
  rw [cell_of_obj ho]
  simpa using intCells_at hi
theorem row_lit {w : World} {g : Nat} {xs : List Int} (ho : w.heap[g]? = some (.cells (xs.map (Value.int .u64)).toArray 57 (0, 0))) (hl : xs.length ≤ maxLen) : IsRow w 0 (.slice (some ⟨g, 0, none⟩) xs.length xs.length) xs :=
  ⟨by simp, .inr ⟨g, xs.length, (xs.map (Value.int .u64)).toArray, rfl, Nat.zero_le _, ho, Nat.le_refl _, hl, by simp, by simp only [Nat.mul_one]; exact List.take_of_length_le (by simp)⟩⟩

end Go.Proofs.YtedljgohmlilgaaGreat
