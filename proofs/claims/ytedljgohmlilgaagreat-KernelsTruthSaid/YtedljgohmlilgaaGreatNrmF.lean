/-
  slices.SortedFunc, edges.Normal at edges that are in order already.
-/
import Derived.Test.YtedljgohmlilgaaGreatNrmE
namespace Go.Proofs.YtedljgohmlilgaaGreat
open Go.RowKit Go.Shelf Go.Sort
set_option linter.unusedVariables false
set_option linter.unusedSimpArgs false

theorem IsEdges.to0 {w : World} {E B : Nat} {v : Value} {es : List (Nat × Nat)} (h : IsEdges w E B v es) {B' : Nat} (hb : B' ≤ B) : IsEdges w E B' v es := ⟨ownsRow_base h.own hb⟩

set_option maxRecDepth 100000 in
set_option maxHeartbeats 2000000 in
theorem Sorted_edges (Bs : Nat) (a : Option Addr) (c B E : Nat) (es : List (Nat × Nat)) (w : World) (hc : w.cell? ⟨Bs, 0, none⟩ = some (.slice a es.length c)) (h : IsEdges w E B (.slice a es.length c) es) (hr : Rising es) (hl : es.length ≤ 1000000) :
    Calls Tryz.prog 72 #[.func (.func 108) #[] #[.pointer (some ⟨Bs, 0, none⟩)], .func (.func 74) #[] #[]] w fun e w' => ∃ v, e = .returned v ∧ IsEdges w' 59 w.heap.size v es ∧ Kept [] w w' := by
  have hbs := World.block_lt_of_cell? _ _ hc
  simp at hbs
  have HR := hid hr
  have HE := hid h
  clear hr h
  go_enter Tryz.func72, Tryz.ntmps72
  go_wp2_with fail
  refine (Collect_ok Bs _ es hl w hbs hc HE.out.edgesIn).mono ?_
  rintro e w1 ⟨v, rfl, h1, hk1⟩
  obtain ⟨a1, c1, rfl, hc1, _, _⟩ := h1.slice
  have H1 := hid h1
  have K1 := hid hk1
  clear h1 hk1
  go_wp2_with fail
  refine (Sort_edges a1 es c1 w.heap.size w1 H1.out HR.out hl).mono ?_
  rintro e w2 ⟨rfl, hk2⟩
  have K2 := hid (K1.out.trans hk2)
  have H2 := hid (H1.out.ext hk2)
  clear hk2
  go_wp2
  go_ret
  exact ⟨_, rfl, H2.out, K2.out⟩

set_option maxRecDepth 100000 in
set_option maxHeartbeats 4000000 in
theorem eNormal_ok (n : Nat) (a : Option Addr) (c B E : Nat) (es : List (Nat × Nat)) (w : World) (h : IsEdges w E B (.slice a es.length c) es) (hr : Rising es) (hl : es.length ≤ 4096) (h1 : 1 ≤ n) (h2 : n ≤ 256) (hg : es.any (badE n) = false) :
    Calls Tryz.prog 31 #[.int .i64 n, .slice a es.length c] w fun e w' => ∃ c', ∃ a', e = .returned (.tuple #[.slice a' es.length c', .int .i64 0]) ∧ IsEdges w' 59 w.heap.size (.slice a' es.length c') es ∧ Kept [] w w' := by
  have HR := hid hr
  have HE := hid (h.to0 (Nat.zero_le _))
  have HG := hid hg
  clear hr h hg
  obtain ⟨wb, hwb⟩ : ∃ wb, wb = w.alloc (.cells #[.int .i64 (n : Int)] 3) := ⟨_, rfl⟩
  have hcb : wb.cell? ⟨w.heap.size, 0, none⟩ = some (.int .i64 n) := by rw [hwb]; exact new_cell rfl
  have KB := hid (show Kept [] w wb from by rw [hwb]; exact (Kept.refl _ _).alloc _)
  have d1 : decide (4096 < (es.length : Int)) = false := by simp; omega
  have HWB := hid hwb
  clear hwb
  go_enter Tryz.func31, Tryz.ntmps31
  go_wp2_with fail
  rw [← HWB.out]
  clear HWB
  go_wp2_with fail
  refine (emay_ok n wb h1 h2).mono ?_
  rintro e w0 ⟨rfl, rfl⟩
  go_wp2_with fail
  refine (Contains_ok n w.heap.size a es c E w0 hcb (HE.out.ext KB.out) (by omega) HG.out).mono ?_
  rintro e w1 ⟨rfl, hk1⟩
  have K1 := hid (KB.out.trans hk1)
  clear hk1
  go_wp2_with fail
  refine (Values_ok a es.length c w1).mono ?_
  rintro e w2 ⟨rfl, hw2⟩
  have hc2 : w2.cell? ⟨w1.heap.size, 0, none⟩ = some (.slice a es.length c) := by rw [hw2]; exact new_cell rfl
  have K2 := hid (show Kept [] w w2 from by rw [hw2]; exact K1.out.alloc _)
  clear hw2
  go_wp2_with fail
  refine (Sorted_edges w1.heap.size a c 0 E es w2 hc2 (HE.out.ext K2.out) HR.out (by omega)).mono ?_
  rintro e w3 ⟨v3, rfl, h3, hk3⟩
  obtain ⟨a3, c3, rfl, _, _, _⟩ := h3.slice
  have H3 := hid (h3.to0 K2.out.size)
  have K3 := hid (K2.out.trans hk3)
  clear h3 hk3
  go_wp2_with fail
  refine (Compact_edges a3 es c3 _ w3 H3.out HR.out (by omega)).mono ?_
  rintro e w4 ⟨rfl, hk4⟩
  have H4 := hid (H3.out.ext hk4)
  have K4 := hid (K3.out.trans hk4)
  clear hk4
  go_wp2
  exact bodyPost_ret (v := .tuple #[.slice a3 es.length c3, .int .i64 0]) (by simp [results, Tryz.results31, go_sem]) rfl ⟨_, _, rfl, H4.out, K4.out⟩
end Go.Proofs.YtedljgohmlilgaaGreat
