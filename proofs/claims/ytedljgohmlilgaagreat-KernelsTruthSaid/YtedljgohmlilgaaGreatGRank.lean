/-
  The walk of rank.Begin.
-/
import Derived.Test.YtedljgohmlilgaaGreatGBfs
import Derived.Deep.RegionWith
import Derived.Deep.DeepCutAuto
namespace Go.Proofs.YtedljgohmlilgaaGreat
open Go.RowKit
set_option linter.unusedVariables false

theorem enters_rankBegin1 : Enters 94 := ⟨fun _ _ => by kernel_rfl⟩

set_option maxRecDepth 100000 in
set_option maxHeartbeats 1000000 in
theorem rankBegin1_ok (a b ga gb pc pk : Nat) (xs ys : List Int) (j : Nat) (w : World) (h : Two w a ga b gb xs ys) (hj : j < xs.length) (hj2 : j < ys.length) (hn : xs.length ≤ 256) (hm : ys.length ≤ 256)
    (h2 : Box w [ga, gb] pc (vec a)) (h3 : Box w [ga, gb] pk (vec b)) :
    Calls Tryz.prog 94 #[.int .i64 j, .pointer (some ⟨pc, 0, none⟩), .pointer (some ⟨pk, 0, none⟩)] w fun e w' => e = .returned (.int .i64 0) ∧ Kept [ga, gb] w w' ∧ Two w' a ga b gb (xs.set j one) (ys.set j 0) := by
  have mS := m_Set
  have c2 := h2.cell
  have c3 := h3.cell
  go_enter Tryz.func94, Tryz.ntmps94
  go_wp2_with fail
  refine (Set_ok a ga xs j one _ h.cur hj hn).mono ?_; rintro e w' ⟨rfl, hk, hv⟩
  have c3' := (h3.kept hk (by simp)).cell
  go_wp2_with fail
  have h' := h.setCur hk hv
  refine (Set_ok b gb ys j _ _ h'.acc hj2 hm).mono ?_; rintro e w' ⟨rfl, hk', hv'⟩
  go_wp2
  go_ret
  exact ⟨rfl, (hk.to (by simp)).trans (hk'.to (by simp)), h'.setAcc hk' hv'⟩

set_option maxRecDepth 100000 in
set_option maxHeartbeats 1000000 in
theorem rankBegin_ok (a b ga gb : Nat) (xs ys : List Int) (arg : Nat) (w : World) (h : Two w a ga b gb xs ys) (hl : ys.length = xs.length) (hn : xs.length ≤ 256) (h1 : 1 ≤ xs.length) (hx : 1 ≤ arg) (hx2 : arg ≤ 64) :
    Calls Tryz.prog 50 #[vec a, vec b, .int .i64 arg] w fun e w' => e = .returned (.int .i64 0) ∧ Kept [ga, gb] w w' ∧ Two w' a ga b gb (tab (fun _ => one) xs.length) (tab (fun _ => 0) xs.length) := by
  have mL := m_Len
  have HL := hid hl; clear hl
  have hlt := h.lt
  have d1 : decide ((arg : Int) < 1) = false := by simp; omega
  have d2 : decide ((64 : Int) < arg) = false := by simp; omega
  go_enter Tryz.func50, Tryz.ntmps50
  go_wp2_with fail
  have hk0 : Kept [] w ((w.alloc (.cells #[vec a] 152)).alloc (.cells #[vec b] 152)) := ((Kept.refl _ _).alloc _).alloc _
  have h0 := h.ext hk0
  refine (Check_ok a b ga gb xs ys _ h0.cur h0.acc h1 hn HL.out).mono ?_
  rintro e w1 ⟨rfl, hw⟩
  have b1 : Box w1 [ga, gb] w.heap.size (vec a) := ⟨by rw [← hw]; exact old_cell _ (new_cell (by simp)), by simp; omega⟩
  have b2 : Box w1 [ga, gb] (w.heap.size + 1) (vec b) := ⟨by rw [← hw]; exact new_cell (by simp), by simp; omega⟩
  rw [hw] at hk0 h0
  clear hw
  have c1 := b1.cell
  have c2 := b2.cell
  go_wp2_with fail
  refine (Len_ok a ga xs _ h0.cur).mono ?_
  rintro e w2 ⟨rfl, rfl⟩
  go_wp2_with fail
  have HJ := Each_ok [ga, gb] xs.length 94 #[.pointer (some ⟨w.heap.size, 0, none⟩), .pointer (some ⟨w.heap.size + 1, 0, none⟩)] enters_rankBegin1
    (fun j wr => Two wr a ga b gb (setTo (fun _ => one) j xs) (setTo (fun _ => 0) j ys) ∧ Box wr [ga, gb] w.heap.size (vec a) ∧ Box wr [ga, gb] (w.heap.size + 1) (vec b)) w1 hn ⟨h0, b1, b2⟩
    (fun j wr hj ⟨q, q1, q2⟩ => (rankBegin1_ok a b ga gb w.heap.size (w.heap.size + 1) _ _ j wr q (by rw [setTo_length]; exact hj) (by rw [setTo_length, HL.out]; exact hj) (by rw [setTo_length]; exact hn) (by rw [setTo_length, HL.out]; exact hn) q1 q2).mono
      fun e w' ⟨he, hk, ht⟩ => ⟨he, ⟨ht, q1.kept hk (by simp), q2.kept hk (by simp)⟩, hk⟩)
  refine HJ.mono ?_
  rintro e w2 ⟨rfl, ⟨q, _⟩, hk⟩
  go_wp2
  go_ret
  refine ⟨rfl, hk0.of_nil.trans hk, ?_⟩
  rw [setTo_all, ← HL.out, setTo_all, HL.out] at q
  exact q
end Go.Proofs.YtedljgohmlilgaaGreat
/-
  The walk of rank.Shard's closure.
-/
namespace Go.Proofs.YtedljgohmlilgaaGreat
open Go.RowKit
set_option linter.unusedVariables false

theorem enters_rankShard1 : Enters 95 := ⟨fun _ _ => by kernel_rfl⟩
theorem rank_sum {x y : Int} {m : Nat} (h0 : 0 ≤ x) (h1 : x < 18446744073709551616) (hm : 1 ≤ m) : IntKind.u64.wrap (y + IntKind.u64.wrap (x.tdiv m)) = word (y + x / m) := by
  have e : x.tdiv m = x / m := Int.tdiv_eq_ediv_of_nonneg h0
  have p0 : 0 ≤ x / (m : Int) := Int.ediv_nonneg h0 (by omega)
  have p1 : x / (m : Int) ≤ x := Int.ediv_le_self _ h0
  rw [e, u64_in p0 (by omega)]
  simp [IntKind.wrap, IntKind.bits, IntKind.signed, word]
theorem n_Set (a : Addr) (w : World) : (nilAhead 309 67 (.pointer (some a)) "Set").run Tryz.prog w = .ok (some false) w := by kernel_rfl

set_option maxRecDepth 100000 in
set_option maxHeartbeats 1000000 in
theorem rankShard1_ok (a b ga gb pc pk : Nat) (xs ys : List Int) (u v m : Nat) (w : World) (h : Two w a ga b gb xs ys) (hu : u < xs.length) (hv : v < ys.length) (hn : xs.length ≤ 256) (hm : ys.length ≤ 256) (hx : Words xs) (hy : Words ys) (hm1 : 1 ≤ m) (hm2 : m ≤ 1000000)
    (h1 : Box w [gb] pc (vec a)) (h3 : Box w [gb] pk (vec b)) :
    Calls Tryz.prog 95 #[.int .i64 u, .int .i64 v, .int .i64 m, .pointer (some ⟨pc, 0, none⟩), .pointer (some ⟨pk, 0, none⟩)] w fun e w' => e = .returned (.int .i64 0) ∧ Kept [gb] w w' ∧ Two w' a ga b gb xs (rankEdge xs ys (u, v, m)) := by
  have mG := m_Get
  have mS := m_Set
  have nS := n_Set
  have c1 := h1.cell
  have c3 := h3.cell
  have hxu := (hx u).1
  have hxu2 := (hx u).2
  have hyv := (hy v).1
  have hyv2 := (hy v).2
  go_enter Tryz.func95, Tryz.ntmps95
  go_wp2_with fail
  refine (Get_ok a ga xs u _ h.cur hu hn).mono ?_; rintro e w' ⟨rfl, rfl⟩
  go_wp2_with fail
  refine (Get_ok b gb ys v _ h.acc hv hm).mono ?_; rintro e w' ⟨rfl, rfl⟩
  have w1 : IntKind.u64.wrap (m : Int) = m := u64_in (by omega) (by omega)
  have w2 : ¬ m = 0 := by omega
  go_wp2_with fail
  go_region_with (go_at_call 155; refine (Set_ok b gb ys v _ _ (h.ext (Kept.refl _ _).drew).acc hv hm).mono ?_; rintro e w' ⟨rfl, hk, hq⟩)
  rename_i hk hq
  go_wp2
  go_ret
  rw [rank_sum hxu hxu2 hm1] at hq
  exact ⟨rfl, (Kept.refl _ w).drew.trans hk, (h.ext (Kept.refl _ _).drew).setAcc hk hq⟩
end Go.Proofs.YtedljgohmlilgaaGreat
/-
  The walk of rank.Shard, on its closure's.
-/
namespace Go.Proofs.YtedljgohmlilgaaGreat
open Go.RowKit
set_option linter.unusedVariables false

set_option maxRecDepth 100000 in
set_option maxHeartbeats 1000000 in
theorem rankShard_ok (L : List Nat) (a b ga gb : Nat) (xs ys : List Int) (fr : Nat) (t : Int) (o : Option Addr) (c : Nat) (rows : List (List Nat)) (round : Nat) (w : World) (h : Two w a ga b gb xs ys) (hl : ys.length = xs.length) (hn : xs.length ≤ 256) (h1 : 1 ≤ xs.length)
    (ho : IsOut w L o rows) (hgb : gb ∈ L) (t1 : t ≤ xs.length) (t2 : (fr : Int) + rows.length ≤ t) (t3 : t ≤ fr + rows.length) (hw : Within rows xs.length) (hsz : ∀ i, i < rows.length → (row rows i).length ≤ 1000000) (hx : Words xs) (hy : Words ys) :
    Calls Tryz.prog 52 #[vec a, vec b, .agg #[.int .i64 fr, .int .i64 t, .slice o rows.length c], .int .i64 round] w fun e w' => e = .returned (.int .i64 0) ∧ Kept [gb] w w' ∧ Two w' a ga b gb xs (rankShard xs ys (edgesOf fr rows)) := by
  have mL := m_Len
  have HL := hid hl; clear hl
  have HW := hid hw; clear hw
  have HZ := hid (show ∀ i, i < rows.length → (row rows i).length ≤ 4611686018427387904 from fun i hi => by have := hsz i hi; omega)
  have hlt := h.lt
  have d1 : decide ((round : Int) < 0) = false := by simp
  have HE := hid (show ∀ j u v m, (edgesOf fr rows)[j]? = some (u, v, m) → u < xs.length ∧ v < xs.length ∧ 1 ≤ m ∧ m ≤ 1000000 from fun j u v m e => by
    obtain ⟨i, k, hi, hk, he⟩ := edgesOf_mem _ _ _ (List.mem_of_getElem? e)
    simp only [Prod.mk.injEq] at he
    have := hsz i hi
    exact ⟨by omega, by rw [he.2.1]; exact HW.out i hi k hk, by omega, by omega⟩)
  clear hsz
  go_enter Tryz.func52, Tryz.ntmps52
  go_wp2_with fail
  have hk0 : Kept [] w (((w.alloc (.cells #[vec a] 152)).alloc (.cells #[vec b] 152)).alloc (.cells #[.int .i64 fr, .int .i64 t, .slice o rows.length c] 43)) := (((Kept.refl _ _).alloc _).alloc _).alloc _
  have h0 := h.ext hk0
  refine (Check_ok a b ga gb xs ys _ h0.cur h0.acc h1 hn HL.out).mono ?_
  rintro e w1 ⟨rfl, hw⟩
  have b1 : Box w1 [gb] w.heap.size (vec a) := ⟨by rw [← hw]; exact old_cell _ (old_cell _ (new_cell (by simp))), by simp; omega⟩
  have b2 : Box w1 [gb] (w.heap.size + 1) (vec b) := ⟨by rw [← hw]; exact old_cell _ (new_cell (by simp)), by simp; omega⟩
  have b3 : BoxO w1 [gb] (w.heap.size + 1 + 1) (.cells #[.int .i64 fr, .int .i64 t, .slice o rows.length c] 43) := ⟨by rw [← hw]; exact new_obj (by simp), by simp; omega⟩
  rw [hw] at hk0 h0
  clear hw
  have c1 := b1.cell
  have c2 := b2.cell
  have c3 : w1.cell? ⟨w.heap.size + 1 + 1, 0, none⟩ = some (.int .i64 fr) := cell_of_obj b3.obj 0
  have c3' : w1.cell? ⟨w.heap.size + 1 + 1, 1, none⟩ = some (.int .i64 t) := cell_of_obj b3.obj 1
  have c3'' : w1.cell? ⟨w.heap.size + 1 + 1, 2, none⟩ = some (.slice o rows.length c) := cell_of_obj b3.obj 2
  go_wp2_with fail
  have ho1 := ho.kept hk0 (by simp)
  go_cut [10] (fun s wx => s = .int .i64 0 ∧ Kept [] w1 wx)
  case first =>
    go_region_with (first | (go_at_call 154; refine (Len_ok a ga xs _ (h0.ext (Kept.refl _ _).drew).cur).mono ?_; rintro e w' ⟨rfl, rfl⟩) | (go_at_call 89; refine (Fits_ok L fr xs.length t o c rows _ (ho1.kept (Kept.refl [] _).drew (by simp)) t1 t2 t3 hn HW.out HZ.out).mono ?_; rintro e w2 ⟨rfl, hk2⟩))
    all_goals (go_wp2_with fail; go_meet; exact ⟨rfl, (Kept.refl [] w1).drew.trans (by assumption)⟩)
  case rest =>
    obtain ⟨rfl, hk2⟩ := hcut
    have h2 := h0.ext hk2
    replace b1 := b1.ext hk2
    replace b2 := b2.ext hk2
    replace b3 := b3.ext hk2
    replace ho1 := ho1.kept hk2 (by simp)
    replace c3 : wc.cell? ⟨w.heap.size + 1 + 1, 0, none⟩ = some (.int .i64 fr) := cell_of_obj b3.obj 0
    replace c3' : wc.cell? ⟨w.heap.size + 1 + 1, 1, none⟩ = some (.int .i64 t) := cell_of_obj b3.obj 1
    replace c3'' : wc.cell? ⟨w.heap.size + 1 + 1, 2, none⟩ = some (.slice o rows.length c) := cell_of_obj b3.obj 2
    clear c1 c2
    go_wp2_with fail
    have HJ := Edges_ok [gb] L (by simpa using hgb) fr t o c rows 95 #[.pointer (some ⟨w.heap.size, 0, none⟩), .pointer (some ⟨w.heap.size + 1, 0, none⟩)] enters_rankShard1
      (fun j wr => Two wr a ga b gb xs (rankShard xs ys ((edgesOf fr rows).take j)) ∧ Box wr [gb] w.heap.size (vec a) ∧ Box wr [gb] (w.heap.size + 1) (vec b)) wc
      (by simpa using h2.lt.2.2.2) ho1 (by omega) HZ.out ⟨by simpa [rankShard] using h2, b1, b2⟩
      (fun j w w' ⟨q, q1, q2⟩ hk => ⟨q.ext hk, q1.ext hk, q2.ext hk⟩)
      (fun j u v m wr he ⟨q, q1, q2⟩ => (rankShard1_ok a b ga gb w.heap.size (w.heap.size + 1) _ _ u v m wr q (HE.out _ _ _ _ he).1 (by rw [rankShard_length, HL.out]; exact (HE.out _ _ _ _ he).2.1) hn (by rw [rankShard_length, HL.out]; exact hn) hx (rankShard_words hy _) (HE.out _ _ _ _ he).2.2.1 (HE.out _ _ _ _ he).2.2.2 q1 q2).mono
        fun e w' ⟨hr, hk, ht⟩ => ⟨hr, ⟨by rw [rankShard, foldl_take_succ _ _ _ _ _ he]; exact ht, q1.kept hk (by simp), q2.kept hk (by simp)⟩, hk⟩)
    refine HJ.mono ?_
    rintro e w2 ⟨rfl, ⟨q, _⟩, hk⟩
    go_wp2
    go_ret
    rw [List.take_length] at q
    exact ⟨rfl, (hk0.trans hk2).of_nil.trans hk, q⟩
end Go.Proofs.YtedljgohmlilgaaGreat
/-
  The walk of rank.Commit.
-/
namespace Go.Proofs.YtedljgohmlilgaaGreat
open Go.RowKit
set_option linter.unusedVariables false

theorem enters_rankCommit1 : Enters 96 := ⟨fun _ _ => by kernel_rfl⟩

theorem ranked_eq (y : Int) : IntKind.u64.wrap (644245094 + IntKind.u64.wrap ((IntKind.u64.wrap (y * 850)).tdiv 1000)) = ranked y := by
  have h := word_in (y * 850)
  rw [u64_word (y * 850), Int.tdiv_eq_ediv_of_nonneg h.1, u64_in (x := word (y * 850) / 1000) (by omega) (by omega), u64_word, ranked]

set_option maxRecDepth 100000 in
set_option maxHeartbeats 1000000 in
theorem rankCommit1_ok (a b ga gb pk pc : Nat) (xs ys : List Int) (i : Nat) (w : World) (h : Two w a ga b gb xs ys) (hi : i < xs.length) (hi2 : i < ys.length) (hn : xs.length ≤ 256) (hm : ys.length ≤ 256) (hy : Words ys)
    (h1 : Box w [ga, gb] pc (vec a)) (h2 : Box w [ga, gb] pk (vec b)) :
    Calls Tryz.prog 96 #[.int .i64 i, .pointer (some ⟨pk, 0, none⟩), .pointer (some ⟨pc, 0, none⟩)] w fun e w' => e = .returned (.int .i64 0) ∧ Kept [ga, gb] w w' ∧ Two w' a ga b gb (xs.set i (ranked (nth ys i))) (ys.set i 0) := by
  have mG := m_Get
  have mS := m_Set
  have c1 := h1.cell
  have c2 := h2.cell
  have hy0 := (hy i).1
  have hy1 := (hy i).2
  go_enter Tryz.func96, Tryz.ntmps96
  go_wp2_with fail
  refine (Get_ok b gb ys i _ h.acc hi2 hm).mono ?_; rintro e w' ⟨rfl, rfl⟩
  go_wp2_with fail
  refine (Set_ok a ga xs i _ _ h.cur hi hn).mono ?_; rintro e w' ⟨rfl, hk, hv⟩
  have c2' := (h2.kept hk (by simp)).cell
  have h' := h.setCur hk hv
  go_wp2_with fail
  refine (Set_ok b gb ys i 0 _ h'.acc hi2 hm).mono ?_; rintro e w4 ⟨rfl, hk4, hq4⟩
  go_wp2
  go_ret
  refine ⟨rfl, (hk.to (by simp)).trans (hk4.to (by simp)), ?_⟩
  rw [← ranked_eq]
  exact h'.setAcc hk4 hq4

set_option maxRecDepth 100000 in
set_option maxHeartbeats 1000000 in
theorem rankCommit_ok (a b ga gb : Nat) (xs ys : List Int) (arg round : Nat) (w : World) (h : Two w a ga b gb xs ys) (hl : ys.length = xs.length) (hn : xs.length ≤ 256) (h1 : 1 ≤ xs.length) (hy : Words ys) (hr : 1 ≤ arg) (hr1 : arg ≤ 1000000) (hr2 : round ≤ 1000000) :
    Calls Tryz.prog 54 #[vec a, vec b, .int .i64 arg, .int .i64 round] w fun e w' => e = .returned (.tuple #[.bool (rankDone arg round), .int .i64 0]) ∧ Kept [ga, gb] w w' ∧ Two w' a ga b gb (tab (fun i => ranked (nth ys i)) xs.length) (tab (fun _ => 0) xs.length) := by
  have mL := m_Len
  have HL := hid hl; clear hl
  have hlt := h.lt
  have HY : ∀ j, Words (setTo (fun _ => 0) j ys) := fun j => by
    induction j with
    | zero => exact hy
    | succ j ih => exact ih.set _ (v := 0) (by omega)
  have HY := hid HY
  have key : ∀ (g1 g2 : Bool), decide (arg ≤ round) = g1 → ((round : Int) == (arg : Int) - 1) = g2 → rankDone arg round = (g1 || g2) := by
    intro g1 g2 e1 e2
    rw [← e1, ← e2, Bool.eq_iff_iff]
    simp [rankDone]; omega
  generalize hg1 : decide (arg ≤ round) = g1 at key
  generalize hg2 : ((round : Int) == (arg : Int) - 1) = g2 at key
  have HD := hid (key _ _ rfl rfl)
  clear key
  cases g1 <;> cases g2
  all_goals
    go_enter Tryz.func54, Tryz.ntmps54
    go_wp2_with fail
    have hk0 : Kept [] w ((w.alloc (.cells #[vec a] 152)).alloc (.cells #[vec b] 152)) := ((Kept.refl _ _).alloc _).alloc _
    have h0 := h.ext hk0
    refine (Check_ok a b ga gb xs ys _ h0.cur h0.acc h1 hn HL.out).mono ?_
    rintro e w1 ⟨rfl, hw⟩
    have b1 : Box w1 [ga, gb] w.heap.size (vec a) := ⟨by rw [← hw]; exact old_cell _ (new_cell (by simp)), by simp; omega⟩
    have b2 : Box w1 [ga, gb] (w.heap.size + 1) (vec b) := ⟨by rw [← hw]; exact new_cell (by simp), by simp; omega⟩
    rw [hw] at hk0 h0
    clear hw
    have c1 := b1.cell
    have c2 := b2.cell
    go_wp2_with fail
    refine (Len_ok a ga xs _ h0.cur).mono ?_
    rintro e w2 ⟨rfl, rfl⟩
    go_wp2_with fail
    have HJ := Each_ok [ga, gb] xs.length 96 #[.pointer (some ⟨w.heap.size + 1, 0, none⟩), .pointer (some ⟨w.heap.size, 0, none⟩)] enters_rankCommit1
      (fun j wr => Two wr a ga b gb (setTo (fun i => ranked (nth ys i)) j xs) (setTo (fun _ => 0) j ys) ∧ Box wr [ga, gb] w.heap.size (vec a) ∧ Box wr [ga, gb] (w.heap.size + 1) (vec b)) w1 hn ⟨h0, b1, b2⟩
      (fun j wr hj ⟨q, q1, q2⟩ => (rankCommit1_ok a b ga gb (w.heap.size + 1) w.heap.size _ _ j wr q (by rw [setTo_length]; exact hj) (by rw [setTo_length, HL.out]; exact hj) (by rw [setTo_length]; exact hn) (by rw [setTo_length, HL.out]; exact hn) (HY.out j) q1 q2).mono
        fun e w' ⟨he, hk, ht⟩ => ⟨he, ⟨by rw [setTo, setTo, ← nth_setTo_past (fun _ => 0) j ys]; exact ht, q1.kept hk (by simp), q2.kept hk (by simp)⟩, hk⟩)
    refine HJ.mono ?_
    rintro e w2 ⟨rfl, ⟨q, _⟩, hk⟩
    go_wp2
    go_ret2
    refine ⟨by rw [HD.out]; rfl, hk0.of_nil.trans hk, ?_⟩
    rw [setTo_all, ← HL.out, setTo_all, HL.out] at q
    exact q
end Go.Proofs.YtedljgohmlilgaaGreat
