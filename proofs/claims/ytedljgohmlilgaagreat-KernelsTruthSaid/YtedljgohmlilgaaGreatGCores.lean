/-
  The walk of cores.Begin.
-/
import Derived.Test.YtedljgohmlilgaaGreatGBfs
import Derived.Test.YtedljgohmlilgaaGreatGRank
import Derived.LoopN
import Derived.Deep.RegionWith
import Derived.Deep.DeepCutAuto
namespace Go.Proofs.YtedljgohmlilgaaGreat
open Go.RowKit
set_option linter.unusedVariables false

theorem enters_coresBegin1 : Enters 100 := ⟨fun _ _ => by kernel_rfl⟩

set_option maxRecDepth 100000 in
set_option maxHeartbeats 1000000 in
theorem coresBegin1_ok (a b ga gb pc pk : Nat) (xs ys : List Int) (j : Nat) (w : World) (h : Two w a ga b gb xs ys) (hj : j < xs.length) (hj2 : j < ys.length) (hn : xs.length ≤ 256) (hm : ys.length ≤ 256)
    (h2 : Box w [ga, gb] pc (vec a)) (h3 : Box w [ga, gb] pk (vec b)) :
    Calls Tryz.prog 100 #[.int .i64 j, .pointer (some ⟨pc, 0, none⟩), .pointer (some ⟨pk, 0, none⟩)] w fun e w' => e = .returned (.int .i64 0) ∧ Kept [ga, gb] w w' ∧ Two w' a ga b gb (xs.set j 1) (ys.set j 0) := by
  have mS := m_Set
  have c2 := h2.cell
  have c3 := h3.cell
  go_enter Tryz.func100, Tryz.ntmps100
  go_wp2_with fail
  refine (Set_ok a ga xs j 1 _ h.cur hj hn).mono ?_; rintro e w' ⟨rfl, hk, hv⟩
  have c3' := (h3.kept hk (by simp)).cell
  go_wp2_with fail
  have h' := h.setCur hk hv
  refine (Set_ok b gb ys j _ _ h'.acc hj2 hm).mono ?_; rintro e w' ⟨rfl, hk', hv'⟩
  go_wp2
  go_ret
  exact ⟨rfl, (hk.to (by simp)).trans (hk'.to (by simp)), h'.setAcc hk' hv'⟩

set_option maxRecDepth 100000 in
set_option maxHeartbeats 1000000 in
theorem coresBegin_ok (a b ga gb : Nat) (xs ys : List Int) (arg : Nat) (w : World) (h : Two w a ga b gb xs ys) (hl : ys.length = xs.length) (hn : xs.length ≤ 256) (h1 : 1 ≤ xs.length) (hx2 : arg ≤ 4096) :
    Calls Tryz.prog 62 #[vec a, vec b, .int .i64 arg] w fun e w' => e = .returned (.int .i64 0) ∧ Kept [ga, gb] w w' ∧ Two w' a ga b gb (tab (fun _ => 1) xs.length) (tab (fun _ => 0) xs.length) := by
  have mL := m_Len
  have HL := hid hl; clear hl
  have hlt := h.lt
  have d1 : decide ((arg : Int) < 0) = false := by simp
  have d2 : decide ((4096 : Int) < arg) = false := by simp; omega
  go_enter Tryz.func62, Tryz.ntmps62
  go_wp2_with fail
  have hk0 : Kept [] w ((w.alloc (.cells #[vec a] 156)).alloc (.cells #[vec b] 156)) := ((Kept.refl _ _).alloc _).alloc _
  have h0 := h.ext hk0
  refine (Check_ok a b ga gb xs ys _ h0.cur h0.acc h1 hn HL.out).mono ?_
  rintro e w1 ⟨rfl, hw⟩
  have b1 : Box w1 [ga, gb] w.heap.size (vec a) := ⟨by rw [← hw]; exact old_cell _ (new_cell (by simp)), by simp; omega⟩
  have b2 : Box w1 [ga, gb] (w.heap.size + 1) (vec b) := ⟨by rw [← hw]; exact new_cell (by simp), by simp; omega⟩
  rw [hw] at hk0 h0
  clear hw
  have c1 := b1.cell
  have c2 := b2.cell
  go_wp2_with fail
  refine (Len_ok a ga xs _ h0.cur).mono ?_
  rintro e w2 ⟨rfl, rfl⟩
  go_wp2_with fail
  have HJ := Each_ok [ga, gb] xs.length 100 #[.pointer (some ⟨w.heap.size, 0, none⟩), .pointer (some ⟨w.heap.size + 1, 0, none⟩)] enters_coresBegin1
    (fun j wr => Two wr a ga b gb (setTo (fun _ => 1) j xs) (setTo (fun _ => 0) j ys) ∧ Box wr [ga, gb] w.heap.size (vec a) ∧ Box wr [ga, gb] (w.heap.size + 1) (vec b)) w1 hn ⟨h0, b1, b2⟩
    (fun j wr hj ⟨q, q1, q2⟩ => (coresBegin1_ok a b ga gb w.heap.size (w.heap.size + 1) _ _ j wr q (by rw [setTo_length]; exact hj) (by rw [setTo_length, HL.out]; exact hj) (by rw [setTo_length]; exact hn) (by rw [setTo_length, HL.out]; exact hn) q1 q2).mono
      fun e w' ⟨he, hk, ht⟩ => ⟨he, ⟨ht, q1.kept hk (by simp), q2.kept hk (by simp)⟩, hk⟩)
  refine HJ.mono ?_
  rintro e w2 ⟨rfl, ⟨q, _⟩, hk⟩
  go_wp2
  go_ret
  refine ⟨rfl, hk0.of_nil.trans hk, ?_⟩
  rw [setTo_all, ← HL.out, setTo_all, HL.out] at q
  exact q
end Go.Proofs.YtedljgohmlilgaaGreat
/-
  The walk of cores.Shard's closure.
-/
namespace Go.Proofs.YtedljgohmlilgaaGreat
open Go.RowKit
set_option linter.unusedVariables false

theorem enters_coresShard1 : Enters 101 := ⟨fun _ _ => by kernel_rfl⟩

set_option maxRecDepth 100000 in
set_option maxHeartbeats 1000000 in
theorem more_ok (b g : Nat) (xs : List Int) (i : Nat) (w : World) (h : Vec w b g xs) (hi : i < xs.length) (hn : xs.length ≤ 256) :
    Calls Tryz.prog 102 #[vec b, .int .i64 i] w fun e w' => e = .returned (.int .i64 0) ∧ Kept [g] w w' ∧ Vec w' b g (inc xs i) := by
  have mG := m_Get
  have mS := m_Set
  have HW := hid (u64_word (nth xs i + 1))
  go_enter Tryz.func102, Tryz.ntmps102
  go_wp2_with fail
  refine (Get_ok b g xs i _ h hi hn).mono ?_; rintro e w' ⟨rfl, rfl⟩
  go_wp2_with fail
  refine (Set_ok b g xs i _ _ h hi hn).mono ?_; rintro e w' ⟨rfl, hk, hv⟩
  go_wp2
  go_ret
  rw [HW.out] at hv
  exact ⟨rfl, hk, hv⟩

set_option maxRecDepth 100000 in
set_option maxHeartbeats 1000000 in
theorem coresShard1_ok (a b ga gb pc pk : Nat) (xs ys : List Int) (u v m : Nat) (w : World) (h : Two w a ga b gb xs ys) (hu : u < xs.length) (hv2 : v < xs.length) (hu2 : u < ys.length) (hv : v < ys.length) (hn : xs.length ≤ 256) (hm : ys.length ≤ 256)
    (h1 : Box w [gb] pc (vec a)) (h3 : Box w [gb] pk (vec b)) :
    Calls Tryz.prog 101 #[.int .i64 u, .int .i64 v, .int .i64 m, .pointer (some ⟨pc, 0, none⟩), .pointer (some ⟨pk, 0, none⟩)] w fun e w' => e = .returned (.int .i64 0) ∧ Kept [gb] w w' ∧ Two w' a ga b gb xs (coresEdge xs ys (u, v, m)) := by
  have mG := m_Get
  have c1 := h1.cell
  have c3 := h3.cell
  have i0 : ∀ w : World, (Instr.index 154 (.agg #[.int .i64 u, .int .i64 v]) (.int .i64 0)).run Tryz.prog w = .ok (.int .i64 u) w := fun _ => by kernel_rfl
  have i1 : ∀ w : World, (Instr.index 154 (.agg #[.int .i64 u, .int .i64 v]) (.int .i64 1)).run Tryz.prog w = .ok (.int .i64 v) w := fun _ => by kernel_rfl
  by_cases e1 : nth xs u = 0
  · have H := hid (show coresEdge xs ys (u, v, m) = ys by simp [coresEdge, e1])
    have d1 : (nth xs u == (0 : Int)) = true := by simp [e1]
    clear e1
    go_enter Tryz.func101, Tryz.ntmps101
    go_wp2
    refine wp_loop_rounds 1 ?_
    rw [rounds_succ]
    go_wp2_with fail
    refine (Get_ok a ga xs u _ h.cur hu hn).mono ?_; rintro e w1 ⟨rfl, rfl⟩
    go_wp2
    go_ret
    exact ⟨rfl, Kept.refl _ _, by rw [H.out]; exact h⟩
  · have d1 : (nth xs u == (0 : Int)) = false := by simp [e1]
    by_cases e2 : nth xs v = 0
    · have H := hid (show coresEdge xs ys (u, v, m) = ys by simp [coresEdge, e1, e2])
      have d2 : (nth xs v == (0 : Int)) = true := by simp [e2]
      clear e1 e2
      go_enter Tryz.func101, Tryz.ntmps101
      go_wp2
      refine wp_loop_rounds 2 ?_
      rw [rounds_succ]
      go_wp2_with fail
      refine (Get_ok a ga xs u _ h.cur hu hn).mono ?_; rintro e w1 ⟨rfl, rfl⟩
      go_wp2_with fail
      rw [rounds_succ]
      go_wp2_with fail
      refine (Get_ok a ga xs v _ h.cur hv2 hn).mono ?_; rintro e w1 ⟨rfl, rfl⟩
      go_wp2
      go_ret
      exact ⟨rfl, Kept.refl _ _, by rw [H.out]; exact h⟩
    · have H := hid (show coresEdge xs ys (u, v, m) = inc (inc ys u) v by simp [coresEdge, e1, e2])
      have d2 : (nth xs v == (0 : Int)) = false := by simp [e2]
      clear e1 e2
      go_enter Tryz.func101, Tryz.ntmps101
      go_wp2
      refine wp_loop_rounds 3 ?_
      rw [rounds_succ]
      go_wp2_with fail
      refine (Get_ok a ga xs u _ h.cur hu hn).mono ?_; rintro e w1 ⟨rfl, rfl⟩
      go_wp2_with fail
      rw [rounds_succ]
      go_wp2_with fail
      refine (Get_ok a ga xs v _ h.cur hv2 hn).mono ?_; rintro e w1 ⟨rfl, rfl⟩
      go_wp2_with fail
      rw [rounds_succ]
      go_wp2_with fail
      refine (more_ok b gb ys u _ h.acc hu2 hm).mono ?_; rintro e w2 ⟨rfl, hk, hq⟩
      have h2 := h.setAcc hk hq
      have c3' := (h3.kept hk (by simp)).cell
      go_wp2_with fail
      refine (more_ok b gb _ v _ h2.acc (by simpa [inc] using hv) (by simpa [inc] using hm)).mono ?_; rintro e w3 ⟨rfl, hk3, hq3⟩
      go_wp2
      go_ret
      exact ⟨rfl, hk.trans hk3, by rw [H.out]; exact h2.setAcc hk3 hq3⟩
end Go.Proofs.YtedljgohmlilgaaGreat
/-
  The walk of cores.Shard, on its closure's.
-/
namespace Go.Proofs.YtedljgohmlilgaaGreat
open Go.RowKit
set_option linter.unusedVariables false

set_option maxRecDepth 100000 in
set_option maxHeartbeats 1000000 in
theorem coresShard_ok (L : List Nat) (a b ga gb : Nat) (xs ys : List Int) (fr : Nat) (t : Int) (o : Option Addr) (c : Nat) (rows : List (List Nat)) (round : Nat) (w : World) (h : Two w a ga b gb xs ys) (hl : ys.length = xs.length) (hn : xs.length ≤ 256) (h1 : 1 ≤ xs.length)
    (ho : IsOut w L o rows) (hgb : gb ∈ L) (t1 : t ≤ xs.length) (t2 : (fr : Int) + rows.length ≤ t) (t3 : t ≤ fr + rows.length) (hw : Within rows xs.length) (hsz : ∀ i, i < rows.length → (row rows i).length ≤ 1000000) :
    Calls Tryz.prog 64 #[vec a, vec b, .agg #[.int .i64 fr, .int .i64 t, .slice o rows.length c], .int .i64 round] w fun e w' => e = .returned (.int .i64 0) ∧ Kept [gb] w w' ∧ Two w' a ga b gb xs (coresShard xs ys (edgesOf fr rows)) := by
  have mL := m_Len
  have HL := hid hl; clear hl
  have HW := hid hw; clear hw
  have HZ := hid (show ∀ i, i < rows.length → (row rows i).length ≤ 4611686018427387904 from fun i hi => by have := hsz i hi; omega)
  have hlt := h.lt
  have d1 : decide ((round : Int) < 0) = false := by simp
  have HE := hid (show ∀ j u v m, (edgesOf fr rows)[j]? = some (u, v, m) → u < xs.length ∧ v < xs.length ∧ 1 ≤ m ∧ m ≤ 1000000 from fun j u v m e => by
    obtain ⟨i, k, hi, hk, he⟩ := edgesOf_mem _ _ _ (List.mem_of_getElem? e)
    simp only [Prod.mk.injEq] at he
    have := hsz i hi
    exact ⟨by omega, by rw [he.2.1]; exact HW.out i hi k hk, by omega, by omega⟩)
  clear hsz
  go_enter Tryz.func64, Tryz.ntmps64
  go_wp2_with fail
  have hk0 : Kept [] w (((w.alloc (.cells #[vec a] 156)).alloc (.cells #[vec b] 156)).alloc (.cells #[.int .i64 fr, .int .i64 t, .slice o rows.length c] 43)) := (((Kept.refl _ _).alloc _).alloc _).alloc _
  have h0 := h.ext hk0
  refine (Check_ok a b ga gb xs ys _ h0.cur h0.acc h1 hn HL.out).mono ?_
  rintro e w1 ⟨rfl, hw⟩
  have b1 : Box w1 [gb] w.heap.size (vec a) := ⟨by rw [← hw]; exact old_cell _ (old_cell _ (new_cell (by simp))), by simp; omega⟩
  have b2 : Box w1 [gb] (w.heap.size + 1) (vec b) := ⟨by rw [← hw]; exact old_cell _ (new_cell (by simp)), by simp; omega⟩
  have b3 : BoxO w1 [gb] (w.heap.size + 1 + 1) (.cells #[.int .i64 fr, .int .i64 t, .slice o rows.length c] 43) := ⟨by rw [← hw]; exact new_obj (by simp), by simp; omega⟩
  rw [hw] at hk0 h0
  clear hw
  have c1 := b1.cell
  have c2 := b2.cell
  have c3 : w1.cell? ⟨w.heap.size + 1 + 1, 0, none⟩ = some (.int .i64 fr) := cell_of_obj b3.obj 0
  have c3' : w1.cell? ⟨w.heap.size + 1 + 1, 1, none⟩ = some (.int .i64 t) := cell_of_obj b3.obj 1
  have c3'' : w1.cell? ⟨w.heap.size + 1 + 1, 2, none⟩ = some (.slice o rows.length c) := cell_of_obj b3.obj 2
  go_wp2_with fail
  have ho1 := ho.kept hk0 (by simp)
  go_cut [10] (fun s wx => s = .int .i64 0 ∧ Kept [] w1 wx)
  case first =>
    go_region_with (first | (go_at_call 154; refine (Len_ok a ga xs _ (h0.ext (Kept.refl _ _).drew).cur).mono ?_; rintro e w' ⟨rfl, rfl⟩) | (go_at_call 89; refine (Fits_ok L fr xs.length t o c rows _ (ho1.kept (Kept.refl [] _).drew (by simp)) t1 t2 t3 hn HW.out HZ.out).mono ?_; rintro e w2 ⟨rfl, hk2⟩))
    all_goals (go_wp2_with fail; go_meet; exact ⟨rfl, (Kept.refl [] w1).drew.trans (by assumption)⟩)
  case rest =>
    obtain ⟨rfl, hk2⟩ := hcut
    have h2 := h0.ext hk2
    replace b1 := b1.ext hk2
    replace b2 := b2.ext hk2
    replace b3 := b3.ext hk2
    replace ho1 := ho1.kept hk2 (by simp)
    replace c3 : wc.cell? ⟨w.heap.size + 1 + 1, 0, none⟩ = some (.int .i64 fr) := cell_of_obj b3.obj 0
    replace c3' : wc.cell? ⟨w.heap.size + 1 + 1, 1, none⟩ = some (.int .i64 t) := cell_of_obj b3.obj 1
    replace c3'' : wc.cell? ⟨w.heap.size + 1 + 1, 2, none⟩ = some (.slice o rows.length c) := cell_of_obj b3.obj 2
    clear c1 c2
    go_wp2_with fail
    have HJ := Edges_ok [gb] L (by simpa using hgb) fr t o c rows 101 #[.pointer (some ⟨w.heap.size, 0, none⟩), .pointer (some ⟨w.heap.size + 1, 0, none⟩)] enters_coresShard1
      (fun j wr => Two wr a ga b gb xs (coresShard xs ys ((edgesOf fr rows).take j)) ∧ Box wr [gb] w.heap.size (vec a) ∧ Box wr [gb] (w.heap.size + 1) (vec b)) wc
      (by simpa using h2.lt.2.2.2) ho1 (by omega) HZ.out ⟨by simpa [coresShard] using h2, b1, b2⟩
      (fun j w w' ⟨q, q1, q2⟩ hk => ⟨q.ext hk, q1.ext hk, q2.ext hk⟩)
      (fun j u v m wr he ⟨q, q1, q2⟩ => (coresShard1_ok a b ga gb w.heap.size (w.heap.size + 1) _ _ u v m wr q (HE.out _ _ _ _ he).1 (HE.out _ _ _ _ he).2.1 (by rw [coresShard_length, HL.out]; exact (HE.out _ _ _ _ he).1) (by rw [coresShard_length, HL.out]; exact (HE.out _ _ _ _ he).2.1) hn (by rw [coresShard_length, HL.out]; exact hn) q1 q2).mono
        fun e w' ⟨hr, hk, ht⟩ => ⟨hr, ⟨by rw [coresShard, foldl_take_succ _ _ _ _ _ he]; exact ht, q1.kept hk (by simp), q2.kept hk (by simp)⟩, hk⟩)
    refine HJ.mono ?_
    rintro e w2 ⟨rfl, ⟨q, _⟩, hk⟩
    go_wp2
    go_ret
    rw [List.take_length] at q
    exact ⟨rfl, (hk0.trans hk2).of_nil.trans hk, q⟩
end Go.Proofs.YtedljgohmlilgaaGreat
/-
  The walk of cores.Commit's closure.
-/
namespace Go.Proofs.YtedljgohmlilgaaGreat
open Go.RowKit
set_option linter.unusedVariables false

theorem enters_coresCommit1 : Enters 103 := ⟨fun _ _ => by kernel_rfl⟩

set_option maxRecDepth 100000 in
set_option maxHeartbeats 1000000 in
theorem coresCommit1_goes (a b ga gb pk pc pr pd : Nat) (arg : Nat) (harg : arg ≤ 1000000) (xs ys : List Int) (i : Nat) (w : World) (h : Two w a ga b gb xs ys) (hi : i < xs.length) (hi2 : i < ys.length) (hn : xs.length ≤ 256) (hm : ys.length ≤ 256) (dn : Bool)
    (h1 : Box w [ga, gb, pd] pc (vec a)) (h2 : Box w [ga, gb, pd] pk (vec b)) (h3 : Box w [ga, gb, pd] pr (.int .i64 arg)) (hb : w.heap[pd]? = some (.cells #[.bool dn] 4 (0, 0))) (hpd : pd ≠ a ∧ pd ≠ ga ∧ pd ≠ b ∧ pd ≠ gb) (e1 : nth xs i ≠ 0) (e2 : 0 < arg) (e3 : nth ys i < arg) :
    Calls Tryz.prog 103 #[.int .i64 i, .pointer (some ⟨pc, 0, none⟩), .pointer (some ⟨pk, 0, none⟩), .pointer (some ⟨pr, 0, none⟩), .pointer (some ⟨pd, 0, none⟩)] w fun e w' => e = .returned (.int .i64 0) ∧ Round [ga, gb, pd] w w' a ga b gb (xs.set i 0) (ys.set i 0) pd false := by
  have mS := m_Set
  have c1 := h1.cell
  have c2 := h2.cell
  have c3 := h3.cell
  have wa : IntKind.u64.wrap (arg : Int) = arg := u64_in (by omega) (by omega)
  have d1 : (nth xs i != (0 : Int)) = true := by simp [e1]
  have d1' : (nth xs i == (0 : Int)) = false := by simp [e1]
  have hd : w.cell? ⟨pd, 0, none⟩ = some (.bool dn) := cell_of_obj hb 0
  have hf : w.frozen? ⟨pd, 0, none⟩ = false := frozen_of_obj hb 0
  have hk3 : Kept [pd] w (w.setCell ⟨pd, 0, none⟩ (.bool false)) := (Kept.refl _ _).setCell (by simp) _
  have c1' := (h1.kept hk3 (by simp)).cell
  have h2' := h2.kept hk3 (by simp)
  have h' := h.kept hk3 (by simp; omega)
  have hd3 : (w.setCell ⟨pd, 0, none⟩ (.bool false)).heap[pd]? = some (.cells #[.bool false] 4 (0, 0)) := obj_setCell hb 0 _
  clear e1
  go_enter Tryz.func103, Tryz.ntmps103
  go_wp2_with fail
  refine (Two_ok a b ga gb xs ys i _ h.cur h.acc hi hi2 hn hm).mono ?_; rintro e w' ⟨rfl, rfl⟩
  go_wp2_with fail
  refine (Set_ok a ga xs i 0 _ h'.cur hi hn).mono ?_; rintro e w2 ⟨rfl, hk, hq⟩
  have h4 := h'.setCur hk hq
  have c2' := (h2'.kept hk (by simp)).cell
  go_wp2_with fail
  refine (Set_ok b gb ys i 0 _ h4.acc hi2 hm).mono ?_; rintro e w4 ⟨rfl, hk4, hq4⟩
  go_wp2
  go_ret
  exact ⟨rfl, ((hk3.to (by simp)).trans (hk.to (by simp))).trans (hk4.to (by simp)), h4.setAcc hk4 hq4, hk4.obj (hk.obj hd3 (by simp; omega)) (by simp; omega)⟩

set_option maxRecDepth 100000 in
set_option maxHeartbeats 1000000 in
theorem coresCommit1_stays (a b ga gb pk pc pr pd : Nat) (arg : Nat) (harg : arg ≤ 1000000) (xs ys : List Int) (i : Nat) (w : World) (h : Two w a ga b gb xs ys) (hi : i < xs.length) (hi2 : i < ys.length) (hn : xs.length ≤ 256) (hm : ys.length ≤ 256) (dn : Bool)
    (h1 : Box w [ga, gb, pd] pc (vec a)) (h2 : Box w [ga, gb, pd] pk (vec b)) (h3 : Box w [ga, gb, pd] pr (.int .i64 arg)) (hb : w.heap[pd]? = some (.cells #[.bool dn] 4 (0, 0))) (hpd : pd ≠ a ∧ pd ≠ ga ∧ pd ≠ b ∧ pd ≠ gb) (hg : coresGoes arg xs ys i = false) :
    Calls Tryz.prog 103 #[.int .i64 i, .pointer (some ⟨pc, 0, none⟩), .pointer (some ⟨pk, 0, none⟩), .pointer (some ⟨pr, 0, none⟩), .pointer (some ⟨pd, 0, none⟩)] w fun e w' => e = .returned (.int .i64 0) ∧ Round [ga, gb, pd] w w' a ga b gb xs (ys.set i 0) pd dn := by
  have mS := m_Set
  have c1 := h1.cell
  have c2 := h2.cell
  have c3 := h3.cell
  have wa : IntKind.u64.wrap (arg : Int) = arg := u64_in (by omega) (by omega)
  by_cases e1 : nth xs i = 0
  · have d1 : (nth xs i != (0 : Int)) = false := by simp [e1]
    have d1' : (nth xs i == (0 : Int)) = true := by simp [e1]
    clear e1 hg
    go_enter Tryz.func103, Tryz.ntmps103
    go_wp2_with fail
    refine (Two_ok a b ga gb xs ys i _ h.cur h.acc hi hi2 hn hm).mono ?_; rintro e w' ⟨rfl, rfl⟩
    go_wp2_with fail
    refine (Set_ok b gb ys i 0 _ h.acc hi2 hm).mono ?_; rintro e w4 ⟨rfl, hk4, hq4⟩
    go_wp2
    go_ret
    exact ⟨rfl, hk4.to (by simp), h.setAcc hk4 hq4, hk4.obj hb (by simp; omega)⟩
  · have d1 : (nth xs i != (0 : Int)) = true := by simp [e1]
    have d1' : (nth xs i == (0 : Int)) = false := by simp [e1]
    by_cases e2 : 0 < arg
    · have e3 : (arg : Int) ≤ nth ys i := by simp [coresGoes, e1, e2] at hg; omega
      have d3 : decide (nth ys i < (arg : Int)) = false := by simp; omega
      clear e1 hg
      go_enter Tryz.func103, Tryz.ntmps103
      go_wp2_with fail
      refine (Two_ok a b ga gb xs ys i _ h.cur h.acc hi hi2 hn hm).mono ?_; rintro e w' ⟨rfl, rfl⟩
      go_wp2_with fail
      refine (Set_ok b gb ys i 0 _ h.acc hi2 hm).mono ?_; rintro e w4 ⟨rfl, hk4, hq4⟩
      go_wp2
      go_ret
      exact ⟨rfl, hk4.to (by simp), h.setAcc hk4 hq4, hk4.obj hb (by simp; omega)⟩
    · have d2 : decide (0 < (arg : Int)) = false := by simp; omega
      have d2' : decide (0 < arg) = false := by simp; omega
      clear e1 hg
      go_enter Tryz.func103, Tryz.ntmps103
      go_wp2_with fail
      refine (Two_ok a b ga gb xs ys i _ h.cur h.acc hi hi2 hn hm).mono ?_; rintro e w' ⟨rfl, rfl⟩
      go_wp2_with fail
      refine (Set_ok b gb ys i 0 _ h.acc hi2 hm).mono ?_; rintro e w4 ⟨rfl, hk4, hq4⟩
      go_wp2
      go_ret
      exact ⟨rfl, hk4.to (by simp), h.setAcc hk4 hq4, hk4.obj hb (by simp; omega)⟩

theorem coresCommit1_ok (a b ga gb pk pc pr pd : Nat) (arg : Nat) (harg : arg ≤ 1000000) (xs ys : List Int) (i : Nat) (w : World) (h : Two w a ga b gb xs ys) (hi : i < xs.length) (hi2 : i < ys.length) (hn : xs.length ≤ 256) (hm : ys.length ≤ 256) (dn : Bool)
    (h1 : Box w [ga, gb, pd] pc (vec a)) (h2 : Box w [ga, gb, pd] pk (vec b)) (h3 : Box w [ga, gb, pd] pr (.int .i64 arg)) (hb : w.heap[pd]? = some (.cells #[.bool dn] 4 (0, 0))) (hpd : pd ≠ a ∧ pd ≠ ga ∧ pd ≠ b ∧ pd ≠ gb) :
    Calls Tryz.prog 103 #[.int .i64 i, .pointer (some ⟨pc, 0, none⟩), .pointer (some ⟨pk, 0, none⟩), .pointer (some ⟨pr, 0, none⟩), .pointer (some ⟨pd, 0, none⟩)] w fun e w' => e = .returned (.int .i64 0) ∧ Round [ga, gb, pd] w w' a ga b gb (xs.set i (coresCur arg xs ys i)) (ys.set i 0) pd (dn && coresSame arg xs ys i) := by
  by_cases hg : coresGoes arg xs ys i = true
  · have hg' := hg
    simp [coresGoes] at hg'
    refine (coresCommit1_goes a b ga gb pk pc pr pd arg harg xs ys i w h hi hi2 hn hm dn h1 h2 h3 hb hpd hg'.1.1 hg'.1.2 hg'.2).mono fun e w' ⟨h1, h2⟩ => ?_
    rw [show coresCur arg xs ys i = 0 by simp [coresCur, hg], show coresSame arg xs ys i = false by simp [coresSame, hg], Bool.and_false]
    exact ⟨h1, h2⟩
  · have hg' : coresGoes arg xs ys i = false := by simpa using hg
    refine (coresCommit1_stays a b ga gb pk pc pr pd arg harg xs ys i w h hi hi2 hn hm dn h1 h2 h3 hb hpd hg').mono fun e w' ⟨h1, h2⟩ => ?_
    rw [show coresCur arg xs ys i = nth xs i by simp [coresCur, hg'], set_nth, show coresSame arg xs ys i = true by simp [coresSame, hg'], Bool.and_true]
    exact ⟨h1, h2⟩
end Go.Proofs.YtedljgohmlilgaaGreat
/-
  The walk of cores.Commit.
-/
namespace Go.Proofs.YtedljgohmlilgaaGreat
open Go.RowKit
set_option linter.unusedVariables false

theorem coresCur_of {arg : Nat} {xs ys xs' ys' : List Int} {i : Nat} (h1 : nth xs' i = nth xs i) (h2 : nth ys' i = nth ys i) : coresCur arg xs' ys' i = coresCur arg xs ys i := by simp [coresCur, coresGoes, h1, h2]
theorem coresSame_of {arg : Nat} {xs ys xs' ys' : List Int} {i : Nat} (h1 : nth xs' i = nth xs i) (h2 : nth ys' i = nth ys i) : coresSame arg xs' ys' i = coresSame arg xs ys i := by simp [coresSame, coresGoes, h1, h2]

set_option maxRecDepth 100000 in
set_option maxHeartbeats 1000000 in
theorem coresCommit_ok (a b ga gb : Nat) (xs ys : List Int) (arg : Nat) (round : Int) (w : World) (h : Two w a ga b gb xs ys) (hl : ys.length = xs.length) (hn : xs.length ≤ 256) (h1 : 1 ≤ xs.length) (harg : arg ≤ 1000000) :
    Calls Tryz.prog 66 #[vec a, vec b, .int .i64 arg, .int .i64 round] w fun e w' => e = .returned (.tuple #[.bool (coresDone arg xs ys), .int .i64 0]) ∧ Kept [ga, gb] w w' ∧ Two w' a ga b gb (tab (coresCur arg xs ys) xs.length) (tab (fun _ => 0) xs.length) := by
  have mL := m_Len
  have HL := hid hl; clear hl
  have hlt := h.lt
  go_enter Tryz.func66, Tryz.ntmps66
  go_wp2_with fail
  have hk0 : Kept [] w ((((w.alloc (.cells #[vec a] 156)).alloc (.cells #[vec b] 156)).alloc (.cells #[.int .i64 arg] 3)).alloc (.cells #[.bool false] 4)) := ((((Kept.refl _ _).alloc _).alloc _).alloc _).alloc _
  have h0 := h.ext hk0
  refine (Check_ok a b ga gb xs ys _ h0.cur h0.acc h1 hn HL.out).mono ?_
  rintro e w1 ⟨rfl, hw⟩
  have hp : (w.heap.size + 1 + 1 + 1) ≠ a ∧ (w.heap.size + 1 + 1 + 1) ≠ ga ∧ (w.heap.size + 1 + 1 + 1) ≠ b ∧ (w.heap.size + 1 + 1 + 1) ≠ gb := by omega
  have b1 : Box w1 [ga, gb, (w.heap.size + 1 + 1 + 1)] w.heap.size (vec a) := ⟨by rw [← hw]; exact old_cell _ (old_cell _ (old_cell _ (new_cell (by simp)))), by simp; omega⟩
  have b2 : Box w1 [ga, gb, (w.heap.size + 1 + 1 + 1)] (w.heap.size + 1) (vec b) := ⟨by rw [← hw]; exact old_cell _ (old_cell _ (new_cell (by simp))), by simp; omega⟩
  have b4 : Box w1 [ga, gb, (w.heap.size + 1 + 1 + 1)] (w.heap.size + 1 + 1) (.int .i64 arg) := ⟨by rw [← hw]; exact old_cell _ (new_cell (by simp)), by simp; omega⟩
  have b3 : w1.heap[(w.heap.size + 1 + 1 + 1)]? = some (.cells #[.bool false] 4 (0, 0)) := by rw [← hw]; exact new_obj (by simp)
  rw [hw] at hk0 h0
  clear hw
  have c3 : w1.cell? ⟨(w.heap.size + 1 + 1 + 1), 0, none⟩ = some (.bool false) := cell_of_obj b3 0
  have f3 : w1.frozen? ⟨(w.heap.size + 1 + 1 + 1), 0, none⟩ = false := frozen_of_obj b3 0
  have hk2 : Kept [(w.heap.size + 1 + 1 + 1)] w1 (w1.setCell ⟨(w.heap.size + 1 + 1 + 1), 0, none⟩ (.bool true)) := (Kept.refl _ _).setCell (by simp) _
  replace b3 : (w1.setCell ⟨(w.heap.size + 1 + 1 + 1), 0, none⟩ (.bool true)).heap[(w.heap.size + 1 + 1 + 1)]? = some (.cells #[.bool true] 4 (0, 0)) := obj_setCell b3 0 _
  replace b1 := b1.kept hk2 (by simp)
  replace b2 := b2.kept hk2 (by simp)
  replace b4 := b4.kept hk2 (by simp)
  replace h0 := h0.kept hk2 (by simp; omega)
  have c1 := b1.cell
  have c2 := b2.cell
  go_wp2_with fail
  refine (Len_ok a ga xs _ h0.cur).mono ?_
  rintro e w2 ⟨rfl, hw⟩
  rw [hw] at hk2 h0 b1 b2 b3 b4
  clear hw c1 c2
  go_wp2_with fail
  have HJ := Each_ok [ga, gb, (w.heap.size + 1 + 1 + 1)] xs.length 103 #[.pointer (some ⟨w.heap.size, 0, none⟩), .pointer (some ⟨w.heap.size + 1, 0, none⟩), .pointer (some ⟨w.heap.size + 1 + 1, 0, none⟩), .pointer (some ⟨(w.heap.size + 1 + 1 + 1), 0, none⟩)] enters_coresCommit1
    (fun j wr => Two wr a ga b gb (setTo (coresCur arg xs ys) j xs) (setTo (fun _ => 0) j ys) ∧ Box wr [ga, gb, (w.heap.size + 1 + 1 + 1)] w.heap.size (vec a) ∧ Box wr [ga, gb, (w.heap.size + 1 + 1 + 1)] (w.heap.size + 1) (vec b) ∧ Box wr [ga, gb, (w.heap.size + 1 + 1 + 1)] (w.heap.size + 1 + 1) (.int .i64 arg) ∧ wr.heap[(w.heap.size + 1 + 1 + 1)]? = some (.cells #[.bool (allTo (coresSame arg xs ys) j)] 4 (0, 0))) w2 hn ⟨h0, b1, b2, b4, b3⟩
    (fun j wr hj ⟨q, q1, q2, q4, q3⟩ => (coresCommit1_ok a b ga gb (w.heap.size + 1) w.heap.size (w.heap.size + 1 + 1) (w.heap.size + 1 + 1 + 1) arg harg _ _ j wr q (by rw [setTo_length]; exact hj) (by rw [setTo_length, HL.out]; exact hj) (by rw [setTo_length]; exact hn) (by rw [setTo_length, HL.out]; exact hn) _ q1 q2 q4 q3 hp).mono
      fun e w' ⟨he, hr⟩ => ⟨he, ⟨by rw [setTo, setTo, ← coresCur_of (nth_setTo_past _ j xs) (nth_setTo_past _ j ys)]; exact hr.two, q1.kept hr.kept (by simp), q2.kept hr.kept (by simp), q4.kept hr.kept (by simp), by rw [allTo, ← coresSame_of (nth_setTo_past _ j xs) (nth_setTo_past _ j ys)]; exact hr.done⟩, hr.kept⟩)
  refine HJ.mono ?_
  rintro e w3 ⟨rfl, ⟨q, _, _, _, q3⟩, hk⟩
  have c3 : w3.cell? ⟨(w.heap.size + 1 + 1 + 1), 0, none⟩ = some (.bool (allTo (coresSame arg xs ys) xs.length)) := cell_of_obj q3 0
  have f3 : w3.frozen? ⟨(w.heap.size + 1 + 1 + 1), 0, none⟩ = false := frozen_of_obj q3 0
  have HD := hid (show coresDone arg xs ys = allTo (coresSame arg xs ys) xs.length from rfl)
  have hk4 : ∀ v, Kept [ga, gb] w (w3.setCell ⟨(w.heap.size + 1 + 1 + 1), 0, none⟩ v) := fun v => (((hk0.of_nil (S := [ga, gb, (w.heap.size + 1 + 1 + 1)])).trans (hk2.to (by simp))).trans hk).setCell (by simp) v |>.to (by intro k hk; simp at hk ⊢; omega)
  have q' : ∀ v, Two (w3.setCell ⟨(w.heap.size + 1 + 1 + 1), 0, none⟩ v) a ga b gb (tab (coresCur arg xs ys) xs.length) (tab (fun _ => 0) xs.length) := fun v => by
    rw [setTo_all, ← HL.out, setTo_all, HL.out] at q
    exact q.kept ((Kept.refl [(w.heap.size + 1 + 1 + 1)] _).setCell (by simp) _) (by simp; omega)
  generalize allTo (coresSame arg xs ys) xs.length = dn at c3 HD q3
  have c5 : ∀ v, (w3.setCell ⟨(w.heap.size + 1 + 1 + 1), 0, none⟩ v).cell? ⟨(w.heap.size + 1 + 1 + 1), 0, none⟩ = some v := fun v => World.cell?_setCell_same _ _ _ c3
  cases dn
  · have c6 := c5 (.bool false)
    have hk6 := hk4 (.bool false)
    have q6 := q' (.bool false)
    clear c5 hk4 q'
    go_wp2
    exact bodyPost_ret (v := .tuple #[.bool false, .int .i64 0]) (by simp [results, Tryz.results66, go_sem, c6]) rfl ⟨by rw [HD.out], hk6, q6⟩
  · have c6 := c5 (.bool true)
    have hk6 := hk4 (.bool true)
    have q6 := q' (.bool true)
    clear c5 hk4 q'
    go_wp2
    exact bodyPost_ret (v := .tuple #[.bool true, .int .i64 0]) (by simp [results, Tryz.results66, go_sem, c6]) rfl ⟨by rw [HD.out], hk6, q6⟩
end Go.Proofs.YtedljgohmlilgaaGreat
