/-
  The walk of labels.Begin.
-/
import Derived.Test.YtedljgohmlilgaaGreatGBfs
import Derived.LoopN
import Derived.Deep.RegionWith
import Derived.Deep.DeepCutAuto
namespace Go.Proofs.YtedljgohmlilgaaGreat
open Go.RowKit
set_option linter.unusedVariables false

theorem enters_labelsBegin1 : Enters 97 := ⟨fun _ _ => by kernel_rfl⟩

set_option maxRecDepth 100000 in
set_option maxHeartbeats 1000000 in
theorem labelsBegin1_ok (a b ga gb pc pk : Nat) (xs ys : List Int) (j : Nat) (w : World) (h : Two w a ga b gb xs ys) (hj : j < xs.length) (hj2 : j < ys.length) (hn : xs.length ≤ 256) (hm : ys.length ≤ 256)
    (h2 : Box w [ga, gb] pc (vec a)) (h3 : Box w [ga, gb] pk (vec b)) :
    Calls Tryz.prog 97 #[.int .i64 j, .pointer (some ⟨pc, 0, none⟩), .pointer (some ⟨pk, 0, none⟩)] w fun e w' => e = .returned (.int .i64 0) ∧ Kept [ga, gb] w w' ∧ Two w' a ga b gb (xs.set j j) (ys.set j j) := by
  have mS := m_Set
  have wj : IntKind.u64.wrap (j : Int) = j := by simp [IntKind.wrap, IntKind.bits, IntKind.signed]; omega
  have c2 := h2.cell
  have c3 := h3.cell
  go_enter Tryz.func97, Tryz.ntmps97
  go_wp2_with fail
  refine (Set_ok a ga xs j j _ h.cur hj hn).mono ?_; rintro e w' ⟨rfl, hk, hv⟩
  have c3' := (h3.kept hk (by simp)).cell
  go_wp2_with fail
  have h' := h.setCur hk hv
  refine (Set_ok b gb ys j j _ h'.acc hj2 hm).mono ?_; rintro e w' ⟨rfl, hk', hv'⟩
  go_wp2
  go_ret
  exact ⟨rfl, (hk.to (by simp)).trans (hk'.to (by simp)), h'.setAcc hk' hv'⟩

set_option maxRecDepth 100000 in
set_option maxHeartbeats 1000000 in
theorem labelsBegin_ok (a b ga gb : Nat) (xs ys : List Int) (w : World) (h : Two w a ga b gb xs ys) (hl : ys.length = xs.length) (hn : xs.length ≤ 256) (h1 : 1 ≤ xs.length) :
    Calls Tryz.prog 56 #[vec a, vec b, .int .i64 0] w fun e w' => e = .returned (.int .i64 0) ∧ Kept [ga, gb] w w' ∧ Two w' a ga b gb (tab (fun i => i) xs.length) (tab (fun i => i) xs.length) := by
  have mL := m_Len
  have HL := hid hl; clear hl
  have hlt := h.lt
  go_enter Tryz.func56, Tryz.ntmps56
  go_wp2_with fail
  have hk0 : Kept [] w ((w.alloc (.cells #[vec a] 153)).alloc (.cells #[vec b] 153)) := ((Kept.refl _ _).alloc _).alloc _
  have h0 := h.ext hk0
  refine (Check_ok a b ga gb xs ys _ h0.cur h0.acc h1 hn HL.out).mono ?_
  rintro e w1 ⟨rfl, hw⟩
  have b1 : Box w1 [ga, gb] w.heap.size (vec a) := ⟨by rw [← hw]; exact old_cell _ (new_cell (by simp)), by simp; omega⟩
  have b2 : Box w1 [ga, gb] (w.heap.size + 1) (vec b) := ⟨by rw [← hw]; exact new_cell (by simp), by simp; omega⟩
  rw [hw] at hk0 h0
  clear hw
  have c1 := b1.cell
  have c2 := b2.cell
  go_wp2_with fail
  refine (Len_ok a ga xs _ h0.cur).mono ?_
  rintro e w2 ⟨rfl, rfl⟩
  go_wp2_with fail
  have HJ := Each_ok [ga, gb] xs.length 97 #[.pointer (some ⟨w.heap.size, 0, none⟩), .pointer (some ⟨w.heap.size + 1, 0, none⟩)] enters_labelsBegin1
    (fun j wr => Two wr a ga b gb (setTo (fun i => i) j xs) (setTo (fun i => i) j ys) ∧ Box wr [ga, gb] w.heap.size (vec a) ∧ Box wr [ga, gb] (w.heap.size + 1) (vec b)) w1 hn ⟨h0, b1, b2⟩
    (fun j wr hj ⟨q, q1, q2⟩ => (labelsBegin1_ok a b ga gb w.heap.size (w.heap.size + 1) _ _ j wr q (by rw [setTo_length]; exact hj) (by rw [setTo_length, HL.out]; exact hj) (by rw [setTo_length]; exact hn) (by rw [setTo_length, HL.out]; exact hn) q1 q2).mono
      fun e w' ⟨he, hk, ht⟩ => ⟨he, ⟨ht, q1.kept hk (by simp), q2.kept hk (by simp)⟩, hk⟩)
  refine HJ.mono ?_
  rintro e w2 ⟨rfl, ⟨q, _⟩, hk⟩
  go_wp2
  go_ret
  refine ⟨rfl, hk0.of_nil.trans hk, ?_⟩
  rw [setTo_all, ← HL.out, setTo_all, HL.out] at q
  exact q
end Go.Proofs.YtedljgohmlilgaaGreat
/-
  The walk of labels.Shard's closure.
-/
namespace Go.Proofs.YtedljgohmlilgaaGreat
open Go.RowKit
set_option linter.unusedVariables false

theorem enters_labelsShard1 : Enters 98 := ⟨fun _ _ => by kernel_rfl⟩

/-- A place set to a number, if that is less; whether it was, is not asked. -/
theorem Less_any (b g : Nat) (xs : List Int) (i : Nat) (v : Int) (w : World) (h : Vec w b g xs) (hi : i < xs.length) (hn : xs.length ≤ 256) :
    Calls Tryz.prog 92 #[vec b, .int .i64 i, .int .u64 v] w fun e w' => ∃ c : Bool, e = .returned (.tuple #[.bool c, .int .i64 0]) ∧ Kept [g] w w' ∧ Vec w' b g (lower xs i v) := by
  by_cases hlt : v < nth xs i
  · exact (Less_lt b g xs i v w h hi hn hlt).mono fun e w' ⟨h1, h2, h3⟩ => ⟨true, h1, h2, by rw [lower_lt hlt]; exact h3⟩
  · exact (Less_ge b g xs i v w h hi hn (by omega)).mono fun e w' ⟨h1, h2⟩ => ⟨false, h1, h2 ▸ Kept.refl _ _, by rw [lower_ge hlt, ← h2]; exact h⟩

set_option maxRecDepth 100000 in
set_option maxHeartbeats 1000000 in
theorem labelsShard1_ok (a b ga gb pc pk : Nat) (xs ys : List Int) (u v m : Nat) (w : World) (h : Two w a ga b gb xs ys) (hu : u < xs.length) (hv2 : v < xs.length) (hu2 : u < ys.length) (hv : v < ys.length) (hn : xs.length ≤ 256) (hm : ys.length ≤ 256)
    (h1 : Box w [gb] pc (vec a)) (h3 : Box w [gb] pk (vec b)) :
    Calls Tryz.prog 98 #[.int .i64 u, .int .i64 v, .int .i64 m, .pointer (some ⟨pc, 0, none⟩), .pointer (some ⟨pk, 0, none⟩)] w fun e w' => e = .returned (.int .i64 0) ∧ Kept [gb] w w' ∧ Two w' a ga b gb xs (labelsEdge xs ys (u, v, m)) := by
  have mG := m_Get
  have c1 := h1.cell
  have c3 := h3.cell
  have hpc : pc < w.heap.size := World.block_lt_of_cell? _ _ c1
  have hpk : pk < w.heap.size := World.block_lt_of_cell? _ _ c3
  have i0 : ∀ w : World, (Instr.index 155 (.agg #[.int .i64 u, .int .i64 v, .int .i64 v, .int .i64 u]) (.int .i64 0)).run Tryz.prog w = .ok (.agg #[.int .i64 u, .int .i64 v]) w := fun _ => by kernel_rfl
  have i1 : ∀ w : World, (Instr.index 155 (.agg #[.int .i64 u, .int .i64 v, .int .i64 v, .int .i64 u]) (.int .i64 1)).run Tryz.prog w = .ok (.agg #[.int .i64 v, .int .i64 u]) w := fun _ => by kernel_rfl
  go_enter Tryz.func98, Tryz.ntmps98
  go_wp2
  refine wp_loop_rounds 3 ?_
  rw [rounds_succ]
  go_wp2_with fail
  have hk0 : Kept [] w (w.alloc (.cells #[.int .i64 u, .int .i64 v] 154)) := (Kept.refl _ _).alloc _
  have h0 := h.ext hk0
  refine (Get_ok a ga xs u _ h0.cur hu hn).mono ?_; rintro e w1 ⟨rfl, hw⟩
  have o1 : w1.heap[w.heap.size]? = some (.cells #[.int .i64 u, .int .i64 v] 154 (0, 0)) := by rw [← hw]; exact new_obj rfl
  have b1 := h1.ext hk0
  have b3 := h3.ext hk0
  rw [hw] at hk0 h0 b1 b3
  clear hw c1 c3 hpc hpk
  have q1 : w1.cell? ⟨w.heap.size, 1, none⟩ = some (.int .i64 v) := cell_of_obj o1 1
  have c3 := b3.cell
  go_wp2_with fail
  refine (Less_any b gb ys v _ _ h0.acc hv hm).mono ?_; rintro e w2 ⟨cc, rfl, hk1, hq1⟩
  have h2 := h0.setAcc hk1 hq1
  have b1' := b1.kept hk1 (by simp)
  have b3' := b3.kept hk1 (by simp)
  have c1 := b1'.cell
  clear q1 c3
  go_wp2_with fail
  rw [rounds_succ]
  have c3 := b3'.cell
  have hpc : pc < w2.heap.size := World.block_lt_of_cell? _ _ c1
  have hpk : pk < w2.heap.size := World.block_lt_of_cell? _ _ c3
  go_wp2_with fail
  have hk2 : Kept [] w2 (w2.alloc (.cells #[.int .i64 v, .int .i64 u] 154)) := (Kept.refl _ _).alloc _
  replace h2 := h2.ext hk2
  refine (Get_ok a ga xs v _ h2.cur hv2 hn).mono ?_; rintro e w3 ⟨rfl, hw⟩
  have o1 : w3.heap[w2.heap.size]? = some (.cells #[.int .i64 v, .int .i64 u] 154 (0, 0)) := by rw [← hw]; exact new_obj rfl
  replace b3' := b3'.ext hk2
  rw [hw] at hk2 h2 b3'
  clear hw c1 c3 hpc hpk
  have q1 : w3.cell? ⟨w2.heap.size, 1, none⟩ = some (.int .i64 u) := cell_of_obj o1 1
  have c3 := b3'.cell
  go_wp2_with fail
  refine (Less_any b gb _ u _ _ h2.acc (by rw [lower_length]; exact hu2) (by rw [lower_length]; exact hm)).mono ?_; rintro e w4 ⟨cc', rfl, hk3, hq3⟩
  have h4 := h2.setAcc hk3 hq3
  go_wp2_with fail
  rw [rounds_succ]
  go_wp2
  go_ret
  exact ⟨rfl, ((hk0.of_nil.trans hk1).trans hk2.of_nil).trans hk3, h4⟩
end Go.Proofs.YtedljgohmlilgaaGreat
/-
  The walk of labels.Shard, on its closure's.
-/
namespace Go.Proofs.YtedljgohmlilgaaGreat
open Go.RowKit
set_option linter.unusedVariables false

set_option maxRecDepth 100000 in
set_option maxHeartbeats 1000000 in
theorem labelsShard_ok (L : List Nat) (a b ga gb : Nat) (xs ys : List Int) (fr : Nat) (t : Int) (o : Option Addr) (c : Nat) (rows : List (List Nat)) (round : Nat) (w : World) (h : Two w a ga b gb xs ys) (hl : ys.length = xs.length) (hn : xs.length ≤ 256) (h1 : 1 ≤ xs.length)
    (ho : IsOut w L o rows) (hgb : gb ∈ L) (t1 : t ≤ xs.length) (t2 : (fr : Int) + rows.length ≤ t) (t3 : t ≤ fr + rows.length) (hw : Within rows xs.length) (hsz : ∀ i, i < rows.length → (row rows i).length ≤ 1000000) :
    Calls Tryz.prog 58 #[vec a, vec b, .agg #[.int .i64 fr, .int .i64 t, .slice o rows.length c], .int .i64 round] w fun e w' => e = .returned (.int .i64 0) ∧ Kept [gb] w w' ∧ Two w' a ga b gb xs (labelsShard xs ys (edgesOf fr rows)) := by
  have mL := m_Len
  have HL := hid hl; clear hl
  have HW := hid hw; clear hw
  have HZ := hid (show ∀ i, i < rows.length → (row rows i).length ≤ 4611686018427387904 from fun i hi => by have := hsz i hi; omega)
  have hlt := h.lt
  have d1 : decide ((round : Int) < 0) = false := by simp
  have HE := hid (show ∀ j u v m, (edgesOf fr rows)[j]? = some (u, v, m) → u < xs.length ∧ v < xs.length ∧ 1 ≤ m ∧ m ≤ 1000000 from fun j u v m e => by
    obtain ⟨i, k, hi, hk, he⟩ := edgesOf_mem _ _ _ (List.mem_of_getElem? e)
    simp only [Prod.mk.injEq] at he
    have := hsz i hi
    exact ⟨by omega, by rw [he.2.1]; exact HW.out i hi k hk, by omega, by omega⟩)
  clear hsz
  go_enter Tryz.func58, Tryz.ntmps58
  go_wp2_with fail
  have hk0 : Kept [] w (((w.alloc (.cells #[vec a] 153)).alloc (.cells #[vec b] 153)).alloc (.cells #[.int .i64 fr, .int .i64 t, .slice o rows.length c] 43)) := (((Kept.refl _ _).alloc _).alloc _).alloc _
  have h0 := h.ext hk0
  refine (Check_ok a b ga gb xs ys _ h0.cur h0.acc h1 hn HL.out).mono ?_
  rintro e w1 ⟨rfl, hw⟩
  have b1 : Box w1 [gb] w.heap.size (vec a) := ⟨by rw [← hw]; exact old_cell _ (old_cell _ (new_cell (by simp))), by simp; omega⟩
  have b2 : Box w1 [gb] (w.heap.size + 1) (vec b) := ⟨by rw [← hw]; exact old_cell _ (new_cell (by simp)), by simp; omega⟩
  have b3 : BoxO w1 [gb] (w.heap.size + 1 + 1) (.cells #[.int .i64 fr, .int .i64 t, .slice o rows.length c] 43) := ⟨by rw [← hw]; exact new_obj (by simp), by simp; omega⟩
  rw [hw] at hk0 h0
  clear hw
  have c1 := b1.cell
  have c2 := b2.cell
  have c3 : w1.cell? ⟨w.heap.size + 1 + 1, 0, none⟩ = some (.int .i64 fr) := cell_of_obj b3.obj 0
  have c3' : w1.cell? ⟨w.heap.size + 1 + 1, 1, none⟩ = some (.int .i64 t) := cell_of_obj b3.obj 1
  have c3'' : w1.cell? ⟨w.heap.size + 1 + 1, 2, none⟩ = some (.slice o rows.length c) := cell_of_obj b3.obj 2
  go_wp2_with fail
  have ho1 := ho.kept hk0 (by simp)
  go_cut [10] (fun s wx => s = .int .i64 0 ∧ Kept [] w1 wx)
  case first =>
    go_region_with (first | (go_at_call 154; refine (Len_ok a ga xs _ (h0.ext (Kept.refl _ _).drew).cur).mono ?_; rintro e w' ⟨rfl, rfl⟩) | (go_at_call 89; refine (Fits_ok L fr xs.length t o c rows _ (ho1.kept (Kept.refl [] _).drew (by simp)) t1 t2 t3 hn HW.out HZ.out).mono ?_; rintro e w2 ⟨rfl, hk2⟩))
    all_goals (go_wp2_with fail; go_meet; exact ⟨rfl, (Kept.refl [] w1).drew.trans (by assumption)⟩)
  case rest =>
    obtain ⟨rfl, hk2⟩ := hcut
    have h2 := h0.ext hk2
    replace b1 := b1.ext hk2
    replace b2 := b2.ext hk2
    replace b3 := b3.ext hk2
    replace ho1 := ho1.kept hk2 (by simp)
    replace c3 : wc.cell? ⟨w.heap.size + 1 + 1, 0, none⟩ = some (.int .i64 fr) := cell_of_obj b3.obj 0
    replace c3' : wc.cell? ⟨w.heap.size + 1 + 1, 1, none⟩ = some (.int .i64 t) := cell_of_obj b3.obj 1
    replace c3'' : wc.cell? ⟨w.heap.size + 1 + 1, 2, none⟩ = some (.slice o rows.length c) := cell_of_obj b3.obj 2
    clear c1 c2
    go_wp2_with fail
    have HJ := Edges_ok [gb] L (by simpa using hgb) fr t o c rows 98 #[.pointer (some ⟨w.heap.size, 0, none⟩), .pointer (some ⟨w.heap.size + 1, 0, none⟩)] enters_labelsShard1
      (fun j wr => Two wr a ga b gb xs (labelsShard xs ys ((edgesOf fr rows).take j)) ∧ Box wr [gb] w.heap.size (vec a) ∧ Box wr [gb] (w.heap.size + 1) (vec b)) wc
      (by simpa using h2.lt.2.2.2) ho1 (by omega) HZ.out ⟨by simpa [labelsShard] using h2, b1, b2⟩
      (fun j w w' ⟨q, q1, q2⟩ hk => ⟨q.ext hk, q1.ext hk, q2.ext hk⟩)
      (fun j u v m wr he ⟨q, q1, q2⟩ => (labelsShard1_ok a b ga gb w.heap.size (w.heap.size + 1) _ _ u v m wr q (HE.out _ _ _ _ he).1 (HE.out _ _ _ _ he).2.1 (by rw [labelsShard_length, HL.out]; exact (HE.out _ _ _ _ he).1) (by rw [labelsShard_length, HL.out]; exact (HE.out _ _ _ _ he).2.1) hn (by rw [labelsShard_length, HL.out]; exact hn) q1 q2).mono
        fun e w' ⟨hr, hk, ht⟩ => ⟨hr, ⟨by rw [labelsShard, foldl_take_succ _ _ _ _ _ he]; exact ht, q1.kept hk (by simp), q2.kept hk (by simp)⟩, hk⟩)
    refine HJ.mono ?_
    rintro e w2 ⟨rfl, ⟨q, _⟩, hk⟩
    go_wp2
    go_ret
    rw [List.take_length] at q
    exact ⟨rfl, (hk0.trans hk2).of_nil.trans hk, q⟩
end Go.Proofs.YtedljgohmlilgaaGreat
/-
  The walk of labels.Commit.
-/
namespace Go.Proofs.YtedljgohmlilgaaGreat
open Go.RowKit
set_option linter.unusedVariables false

theorem enters_labelsCommit1 : Enters 99 := ⟨fun _ _ => by kernel_rfl⟩

set_option maxRecDepth 100000 in
set_option maxHeartbeats 1000000 in
theorem labelsCommit1_lt (a b ga gb pk pc pd : Nat) (xs ys : List Int) (i : Nat) (w : World) (h : Two w a ga b gb xs ys) (hi : i < xs.length) (hi2 : i < ys.length) (hn : xs.length ≤ 256) (hm : ys.length ≤ 256) (dn : Bool)
    (h1 : Box w [ga, pd] pc (vec a)) (h2 : Box w [ga, pd] pk (vec b)) (hb : w.heap[pd]? = some (.cells #[.bool dn] 4 (0, 0))) (hpd : pd ≠ a ∧ pd ≠ ga ∧ pd ≠ b ∧ pd ≠ gb) (hlt : nth ys i < nth xs i) :
    Calls Tryz.prog 99 #[.int .i64 i, .pointer (some ⟨pk, 0, none⟩), .pointer (some ⟨pc, 0, none⟩), .pointer (some ⟨pd, 0, none⟩)] w fun e w' => e = .returned (.int .i64 0) ∧ Round [ga, pd] w w' a ga b gb (xs.set i (nth ys i)) ys pd false := by
  have mG := m_Get
  have c1 := h1.cell
  have c2 := h2.cell
  cases dn
  all_goals
    go_enter Tryz.func99, Tryz.ntmps99
    go_wp2_with fail
    refine (Get_ok b gb ys i _ h.acc hi2 hm).mono ?_; rintro e w' ⟨rfl, rfl⟩
    go_wp2_with fail
    refine (Less_lt a ga xs i _ _ h.cur hi hn hlt).mono ?_; rintro e w2 ⟨rfl, hk, hq⟩
    have hb2 := hk.obj hb (by simp; omega)
    have hd2 : w2.cell? ⟨pd, 0, none⟩ = some (.bool _) := cell_of_obj hb2 0
    have hf2 : w2.frozen? ⟨pd, 0, none⟩ = false := frozen_of_obj hb2 0
    have h' := h.setCur hk hq
    have hk3 : Kept [pd] w2 (w2.setCell ⟨pd, 0, none⟩ (.bool false)) := (Kept.refl _ _).setCell (by simp) _
    have h3 := h'.kept hk3 (by simp; omega)
    have hd3 : (w2.setCell ⟨pd, 0, none⟩ (.bool false)).heap[pd]? = some (.cells #[.bool false] 4 (0, 0)) := obj_setCell hb2 0 _
    go_wp2
    go_ret
    exact ⟨rfl, (hk.to (by simp)).trans (hk3.to (by simp)), h3, hd3⟩

set_option maxRecDepth 100000 in
set_option maxHeartbeats 1000000 in
theorem labelsCommit1_ge (a b ga gb pk pc pd : Nat) (xs ys : List Int) (i : Nat) (w : World) (h : Two w a ga b gb xs ys) (hi : i < xs.length) (hi2 : i < ys.length) (hn : xs.length ≤ 256) (hm : ys.length ≤ 256) (dn : Bool)
    (h1 : Box w [ga, pd] pc (vec a)) (h2 : Box w [ga, pd] pk (vec b)) (hb : w.heap[pd]? = some (.cells #[.bool dn] 4 (0, 0))) (hpd : pd ≠ a ∧ pd ≠ ga ∧ pd ≠ b ∧ pd ≠ gb) (hge : nth xs i ≤ nth ys i) :
    Calls Tryz.prog 99 #[.int .i64 i, .pointer (some ⟨pk, 0, none⟩), .pointer (some ⟨pc, 0, none⟩), .pointer (some ⟨pd, 0, none⟩)] w fun e w' => e = .returned (.int .i64 0) ∧ Round [ga, pd] w w' a ga b gb xs ys pd dn := by
  have mG := m_Get
  have c1 := h1.cell
  have c2 := h2.cell
  have hk3 : Kept [pd] w (w.setCell ⟨pd, 0, none⟩ (.bool dn)) := (Kept.refl _ _).setCell (by simp) _
  have h3 := h.kept hk3 (by simp; omega)
  have hd : w.cell? ⟨pd, 0, none⟩ = some (.bool dn) := cell_of_obj hb 0
  have hf : w.frozen? ⟨pd, 0, none⟩ = false := frozen_of_obj hb 0
  have hd3 : (w.setCell ⟨pd, 0, none⟩ (.bool dn)).heap[pd]? = some (.cells #[.bool dn] 4 (0, 0)) := obj_setCell hb 0 _
  cases dn
  all_goals
    go_enter Tryz.func99, Tryz.ntmps99
    go_wp2_with fail
    refine (Get_ok b gb ys i _ h.acc hi2 hm).mono ?_; rintro e w' ⟨rfl, rfl⟩
    go_wp2_with fail
    refine (Less_ge a ga xs i _ _ h.cur hi hn hge).mono ?_; rintro e w2 ⟨rfl, rfl⟩
    go_wp2
    go_ret
    exact ⟨rfl, hk3.to (by simp), h3, hd3⟩

theorem labelsCommit1_ok (a b ga gb pk pc pd : Nat) (xs ys : List Int) (i : Nat) (w : World) (h : Two w a ga b gb xs ys) (hi : i < xs.length) (hi2 : i < ys.length) (hn : xs.length ≤ 256) (hm : ys.length ≤ 256) (dn : Bool)
    (h1 : Box w [ga, pd] pc (vec a)) (h2 : Box w [ga, pd] pk (vec b)) (hb : w.heap[pd]? = some (.cells #[.bool dn] 4 (0, 0))) (hpd : pd ≠ a ∧ pd ≠ ga ∧ pd ≠ b ∧ pd ≠ gb) :
    Calls Tryz.prog 99 #[.int .i64 i, .pointer (some ⟨pk, 0, none⟩), .pointer (some ⟨pc, 0, none⟩), .pointer (some ⟨pd, 0, none⟩)] w fun e w' => e = .returned (.int .i64 0) ∧ Round [ga, pd] w w' a ga b gb (xs.set i (labelsCur xs ys i)) ys pd (dn && labelsSame xs ys i) := by
  by_cases hlt : nth ys i < nth xs i
  · refine (labelsCommit1_lt a b ga gb pk pc pd xs ys i w h hi hi2 hn hm dn h1 h2 hb hpd hlt).mono fun e w' ⟨h1, h2⟩ => ?_
    rw [show labelsCur xs ys i = nth ys i by simp [labelsCur, hlt], show labelsSame xs ys i = false by simp [labelsSame, hlt], Bool.and_false]
    exact ⟨h1, h2⟩
  · refine (labelsCommit1_ge a b ga gb pk pc pd xs ys i w h hi hi2 hn hm dn h1 h2 hb hpd (by omega)).mono fun e w' ⟨h1, h2⟩ => ?_
    rw [show labelsCur xs ys i = nth xs i by simp [labelsCur, hlt], set_nth, show labelsSame xs ys i = true by simp [labelsSame, hlt], Bool.and_true]
    exact ⟨h1, h2⟩
end Go.Proofs.YtedljgohmlilgaaGreat
/-
  The walk of labels.Commit.
-/
namespace Go.Proofs.YtedljgohmlilgaaGreat
open Go.RowKit
set_option linter.unusedVariables false

theorem labelsCur_of {xs ys xs' : List Int} {i : Nat} (h1 : nth xs' i = nth xs i) : labelsCur xs' ys i = labelsCur xs ys i := by simp [labelsCur, h1]
theorem labelsSame_of {xs ys xs' : List Int} {i : Nat} (h1 : nth xs' i = nth xs i) : labelsSame xs' ys i = labelsSame xs ys i := by simp [labelsSame, h1]

set_option maxRecDepth 100000 in
set_option maxHeartbeats 1000000 in
theorem labelsCommit_ok (a b ga gb : Nat) (xs ys : List Int) (arg round : Int) (w : World) (h : Two w a ga b gb xs ys) (hl : ys.length = xs.length) (hn : xs.length ≤ 256) (h1 : 1 ≤ xs.length) :
    Calls Tryz.prog 60 #[vec a, vec b, .int .i64 arg, .int .i64 round] w fun e w' => e = .returned (.tuple #[.bool (labelsDone xs ys), .int .i64 0]) ∧ Kept [ga] w w' ∧ Two w' a ga b gb (tab (labelsCur xs ys) xs.length) ys := by
  have mL := m_Len
  have HL := hid hl; clear hl
  have hlt := h.lt
  go_enter Tryz.func60, Tryz.ntmps60
  go_wp2_with fail
  have hk0 : Kept [] w (((w.alloc (.cells #[vec a] 153)).alloc (.cells #[vec b] 153)).alloc (.cells #[.bool false] 4)) := (((Kept.refl _ _).alloc _).alloc _).alloc _
  have h0 := h.ext hk0
  refine (Check_ok a b ga gb xs ys _ h0.cur h0.acc h1 hn HL.out).mono ?_
  rintro e w1 ⟨rfl, hw⟩
  have hp : w.heap.size + 1 + 1 ≠ a ∧ w.heap.size + 1 + 1 ≠ ga ∧ w.heap.size + 1 + 1 ≠ b ∧ w.heap.size + 1 + 1 ≠ gb := by omega
  have b1 : Box w1 [ga, w.heap.size + 1 + 1] w.heap.size (vec a) := ⟨by rw [← hw]; exact old_cell _ (old_cell _ (new_cell (by simp))), by simp; omega⟩
  have b2 : Box w1 [ga, w.heap.size + 1 + 1] (w.heap.size + 1) (vec b) := ⟨by rw [← hw]; exact old_cell _ (new_cell (by simp)), by simp; omega⟩
  have b3 : w1.heap[w.heap.size + 1 + 1]? = some (.cells #[.bool false] 4 (0, 0)) := by rw [← hw]; exact new_obj (by simp)
  rw [hw] at hk0 h0
  clear hw
  have c3 : w1.cell? ⟨w.heap.size + 1 + 1, 0, none⟩ = some (.bool false) := cell_of_obj b3 0
  have f3 : w1.frozen? ⟨w.heap.size + 1 + 1, 0, none⟩ = false := frozen_of_obj b3 0
  have hk2 : Kept [w.heap.size + 1 + 1] w1 (w1.setCell ⟨w.heap.size + 1 + 1, 0, none⟩ (.bool true)) := (Kept.refl _ _).setCell (by simp) _
  replace b3 : (w1.setCell ⟨w.heap.size + 1 + 1, 0, none⟩ (.bool true)).heap[w.heap.size + 1 + 1]? = some (.cells #[.bool true] 4 (0, 0)) := obj_setCell b3 0 _
  replace b1 := b1.kept hk2 (by simp)
  replace b2 := b2.kept hk2 (by simp)
  replace h0 := h0.kept hk2 (by simp; omega)
  have c1 := b1.cell
  have c2 := b2.cell
  go_wp2_with fail
  refine (Len_ok a ga xs _ h0.cur).mono ?_
  rintro e w2 ⟨rfl, hw⟩
  rw [hw] at hk2 h0 b1 b2 b3
  clear hw c1 c2
  go_wp2_with fail
  have HJ := Each_ok [ga, w.heap.size + 1 + 1] xs.length 99 #[.pointer (some ⟨w.heap.size + 1, 0, none⟩), .pointer (some ⟨w.heap.size, 0, none⟩), .pointer (some ⟨w.heap.size + 1 + 1, 0, none⟩)] enters_labelsCommit1
    (fun j wr => Two wr a ga b gb (setTo (labelsCur xs ys) j xs) ys ∧ Box wr [ga, w.heap.size + 1 + 1] w.heap.size (vec a) ∧ Box wr [ga, w.heap.size + 1 + 1] (w.heap.size + 1) (vec b) ∧ wr.heap[w.heap.size + 1 + 1]? = some (.cells #[.bool (allTo (labelsSame xs ys) j)] 4 (0, 0))) w2 hn ⟨h0, b1, b2, b3⟩
    (fun j wr hj ⟨q, q1, q2, q3⟩ => (labelsCommit1_ok a b ga gb (w.heap.size + 1) w.heap.size (w.heap.size + 1 + 1) _ _ j wr q (by rw [setTo_length]; exact hj) (by rw [HL.out]; exact hj) (by rw [setTo_length]; exact hn) (by rw [HL.out]; exact hn) _ q1 q2 q3 hp).mono
      fun e w' ⟨he, hr⟩ => ⟨he, ⟨by rw [setTo, ← labelsCur_of (nth_setTo_past _ j xs)]; exact hr.two, q1.kept hr.kept (by simp), q2.kept hr.kept (by simp), by rw [allTo, ← labelsSame_of (nth_setTo_past _ j xs)]; exact hr.done⟩, hr.kept⟩)
  refine HJ.mono ?_
  rintro e w3 ⟨rfl, ⟨q, _, _, q3⟩, hk⟩
  have c3 : w3.cell? ⟨w.heap.size + 1 + 1, 0, none⟩ = some (.bool (allTo (labelsSame xs ys) xs.length)) := cell_of_obj q3 0
  have f3 : w3.frozen? ⟨w.heap.size + 1 + 1, 0, none⟩ = false := frozen_of_obj q3 0
  have HD := hid (show labelsDone xs ys = allTo (labelsSame xs ys) xs.length from rfl)
  have hk4 : ∀ v, Kept [ga] w (w3.setCell ⟨w.heap.size + 1 + 1, 0, none⟩ v) := fun v => (((hk0.of_nil (S := [ga, w.heap.size + 1 + 1])).trans (hk2.to (by simp))).trans hk).setCell (by simp) v |>.to (by intro k hk; simp at hk ⊢; omega)
  have q' : ∀ v, Two (w3.setCell ⟨w.heap.size + 1 + 1, 0, none⟩ v) a ga b gb (tab (labelsCur xs ys) xs.length) ys := fun v => by
    rw [setTo_all] at q
    exact q.kept ((Kept.refl [w.heap.size + 1 + 1] _).setCell (by simp) _) (by simp; omega)
  generalize allTo (labelsSame xs ys) xs.length = dn at c3 HD q3
  have c5 : ∀ v, (w3.setCell ⟨w.heap.size + 1 + 1, 0, none⟩ v).cell? ⟨w.heap.size + 1 + 1, 0, none⟩ = some v := fun v => World.cell?_setCell_same _ _ _ c3
  cases dn
  · have c6 := c5 (.bool false)
    have hk6 := hk4 (.bool false)
    have q6 := q' (.bool false)
    clear c5 hk4 q'
    go_wp2
    exact bodyPost_ret (v := .tuple #[.bool false, .int .i64 0]) (by simp [results, Tryz.results60, go_sem, c6]) rfl ⟨by rw [HD.out], hk6, q6⟩
  · have c6 := c5 (.bool true)
    have hk6 := hk4 (.bool true)
    have q6 := q' (.bool true)
    clear c5 hk4 q'
    go_wp2
    exact bodyPost_ret (v := .tuple #[.bool true, .int .i64 0]) (by simp [results, Tryz.results60, go_sem, c6]) rfl ⟨by rw [HD.out], hk6, q6⟩
end Go.Proofs.YtedljgohmlilgaaGreat
