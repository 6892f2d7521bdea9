/-
  The walk of rank.Shard, on its closure's.
-/
import Derived.Test.YtedljgohmlilgaaRankS
import Derived.Deep.RegionWith
import Derived.Deep.DeepCutAuto
namespace Go.Proofs.Ytedljgohmlilgaa
open Go.RowKit
set_option linter.unusedVariables false

set_option maxRecDepth 100000 in
set_option maxHeartbeats 1000000 in
theorem rankShard_ok (L : List Nat) (a b ga gb : Nat) (xs ys : List Int) (fr : Nat) (t : Int) (o : Option Addr) (c : Nat) (rows : List (List Nat)) (round : Nat) (w : World) (h : Two w a ga b gb xs ys) (hl : ys.length = xs.length) (hn : xs.length ≤ 256) (h1 : 1 ≤ xs.length)
    (ho : IsOut w L o rows) (hgb : gb ∈ L) (t1 : t ≤ xs.length) (t2 : (fr : Int) + rows.length ≤ t) (t3 : t ≤ fr + rows.length) (hw : Within rows xs.length) (hsz : ∀ i, i < rows.length → (row rows i).length ≤ 1000000) (hx : Words xs) (hy : Words ys) :
    Calls Try.prog 22 #[vec a, vec b, .agg #[.int .i64 fr, .int .i64 t, .slice o rows.length c], .int .i64 round] w fun e w' => e = .returned (.int .i64 0) ∧ Kept [gb] w w' ∧ Two w' a ga b gb xs (rankShard xs ys (edgesOf fr rows)) := by
  have mL := m_Len
  have HL := hid hl; clear hl
  have HW := hid hw; clear hw
  have HZ := hid (show ∀ i, i < rows.length → (row rows i).length ≤ 4611686018427387904 from fun i hi => by have := hsz i hi; omega)
  have hlt := h.lt
  have d1 : decide ((round : Int) < 0) = false := by simp
  have HE := hid (show ∀ j u v m, (edgesOf fr rows)[j]? = some (u, v, m) → u < xs.length ∧ v < xs.length ∧ 1 ≤ m ∧ m ≤ 1000000 from fun j u v m e => by
    obtain ⟨i, k, hi, hk, he⟩ := edgesOf_mem _ _ _ (List.mem_of_getElem? e)
    simp only [Prod.mk.injEq] at he
    have := hsz i hi
    exact ⟨by omega, by rw [he.2.1]; exact HW.out i hi k hk, by omega, by omega⟩)
  clear hsz
  go_enter Try.func22, Try.ntmps22
  go_wp2_with fail
  have hk0 : Kept [] w (((w.alloc (.cells #[vec a] 102)).alloc (.cells #[vec b] 102)).alloc (.cells #[.int .i64 fr, .int .i64 t, .slice o rows.length c] 45)) := (((Kept.refl _ _).alloc _).alloc _).alloc _
  have h0 := h.ext hk0
  refine (Check_ok a b ga gb xs ys _ h0.cur h0.acc h1 hn HL.out).mono ?_
  rintro e w1 ⟨rfl, hw⟩
  have b1 : Box w1 [gb] w.heap.size (vec a) := ⟨by rw [← hw]; exact old_cell _ (old_cell _ (new_cell (by simp))), by simp; omega⟩
  have b2 : Box w1 [gb] (w.heap.size + 1) (vec b) := ⟨by rw [← hw]; exact old_cell _ (new_cell (by simp)), by simp; omega⟩
  have b3 : BoxO w1 [gb] (w.heap.size + 1 + 1) (.cells #[.int .i64 fr, .int .i64 t, .slice o rows.length c] 45) := ⟨by rw [← hw]; exact new_obj (by simp), by simp; omega⟩
  rw [hw] at hk0 h0
  clear hw
  have c1 := b1.cell
  have c2 := b2.cell
  have c3 : w1.cell? ⟨w.heap.size + 1 + 1, 0, none⟩ = some (.int .i64 fr) := cell_of_obj b3.obj 0
  have c3' : w1.cell? ⟨w.heap.size + 1 + 1, 1, none⟩ = some (.int .i64 t) := cell_of_obj b3.obj 1
  have c3'' : w1.cell? ⟨w.heap.size + 1 + 1, 2, none⟩ = some (.slice o rows.length c) := cell_of_obj b3.obj 2
  go_wp2_with fail
  have ho1 := ho.kept hk0 (by simp)
  go_cut [10] (fun s wx => s = .int .i64 0 ∧ Kept [] w1 wx)
  case first =>
    go_region_with (first | (go_at_call 61; refine (Len_ok a ga xs _ (h0.ext (Kept.refl _ _).drew).cur).mono ?_; rintro e w' ⟨rfl, rfl⟩) | (go_at_call 57; refine (Fits_ok L fr xs.length t o c rows _ (ho1.kept (Kept.refl [] _).drew (by simp)) t1 t2 t3 hn HW.out HZ.out).mono ?_; rintro e w2 ⟨rfl, hk2⟩))
    all_goals (go_wp2_with fail; go_meet; exact ⟨rfl, (Kept.refl [] w1).drew.trans (by assumption)⟩)
  case rest =>
    obtain ⟨rfl, hk2⟩ := hcut
    have h2 := h0.ext hk2
    replace b1 := b1.ext hk2
    replace b2 := b2.ext hk2
    replace b3 := b3.ext hk2
    replace ho1 := ho1.kept hk2 (by simp)
    replace c3 : wc.cell? ⟨w.heap.size + 1 + 1, 0, none⟩ = some (.int .i64 fr) := cell_of_obj b3.obj 0
    replace c3' : wc.cell? ⟨w.heap.size + 1 + 1, 1, none⟩ = some (.int .i64 t) := cell_of_obj b3.obj 1
    replace c3'' : wc.cell? ⟨w.heap.size + 1 + 1, 2, none⟩ = some (.slice o rows.length c) := cell_of_obj b3.obj 2
    clear c1 c2
    go_wp2_with fail
    have HJ := Edges_ok [gb] L (by simpa using hgb) fr t o c rows 59 #[.pointer (some ⟨w.heap.size, 0, none⟩), .pointer (some ⟨w.heap.size + 1, 0, none⟩)] enters_rankShard1
      (fun j wr => Two wr a ga b gb xs (rankShard xs ys ((edgesOf fr rows).take j)) ∧ Box wr [gb] w.heap.size (vec a) ∧ Box wr [gb] (w.heap.size + 1) (vec b)) wc
      (by simpa using h2.lt.2.2.2) ho1 (by omega) HZ.out ⟨by simpa [rankShard] using h2, b1, b2⟩
      (fun j w w' ⟨q, q1, q2⟩ hk => ⟨q.ext hk, q1.ext hk, q2.ext hk⟩)
      (fun j u v m wr he ⟨q, q1, q2⟩ => (rankShard1_ok a b ga gb w.heap.size (w.heap.size + 1) _ _ u v m wr q (HE.out _ _ _ _ he).1 (by rw [rankShard_length, HL.out]; exact (HE.out _ _ _ _ he).2.1) hn (by rw [rankShard_length, HL.out]; exact hn) hx (rankShard_words hy _) (HE.out _ _ _ _ he).2.2.1 (HE.out _ _ _ _ he).2.2.2 q1 q2).mono
        fun e w' ⟨hr, hk, ht⟩ => ⟨hr, ⟨by rw [rankShard, foldl_take_succ _ _ _ _ _ he]; exact ht, q1.kept hk (by simp), q2.kept hk (by simp)⟩, hk⟩)
    refine HJ.mono ?_
    rintro e w2 ⟨rfl, ⟨q, _⟩, hk⟩
    go_wp2
    go_ret
    rw [List.take_length] at q
    exact ⟨rfl, (hk0.trans hk2).of_nil.trans hk, q⟩
end Go.Proofs.Ytedljgohmlilgaa
