/-
  The walks of package bfs.
-/
import Derived.Test.YtedljgohmlilgaaGreatEdges
import Derived.Test.YtedljgohmlilgaaGreatPure
import Derived.Deep.QuietTactic
import Derived.BigQuiet
import Derived.Deep.RegionWith
import Derived.Deep.DeepCutAuto
namespace Go.Proofs.YtedljgohmlilgaaGreat
open Go.RowKit
set_option linter.unusedVariables false

theorem u64_in {x : Int} (h0 : 0 ≤ x) (h1 : x < 18446744073709551616) : IntKind.u64.wrap x = x := by
  simp [IntKind.wrap, IntKind.bits, IntKind.signed]; omega
theorem u64_word (x : Int) : IntKind.u64.wrap x = word x := by simp [IntKind.wrap, IntKind.bits, IntKind.signed, word]

/-- A callee that leaves the world alone, met in a region that draws its order. -/
theorem quiet_same {P : Program} {f : FuncId} {args : Array Value} {w : World} {n : Nat} {v : Value}
    (h : Calls P f args (w.drewN n) fun e w' => e = .returned v ∧ w.drewN n = w') : Calls P f args (w.drewN n) fun e w'' => e = .returned v ∧ ∃ m, w'' = w.drewN m :=
  Calls.quiet_of_same (h.mono fun _ _ ⟨he, hw⟩ => ⟨he, hw.symm⟩)

theorem enters_bfsBegin1 : Enters 88 := ⟨fun _ _ => by kernel_rfl⟩

set_option maxRecDepth 100000 in
set_option maxHeartbeats 1000000 in
theorem bfsBegin1_ok (a b ga gb pa pc pk : Nat) (xs ys : List Int) (arg j : Nat) (w : World) (h : Two w a ga b gb xs ys) (hj : j < xs.length) (hj2 : j < ys.length) (hn : xs.length ≤ 256) (hm : ys.length ≤ 256)
    (h1 : Box w [ga, gb] pa (.int .i64 arg)) (h2 : Box w [ga, gb] pc (vec a)) (h3 : Box w [ga, gb] pk (vec b)) :
    Calls Tryz.prog 88 #[.int .i64 j, .pointer (some ⟨pa, 0, none⟩), .pointer (some ⟨pc, 0, none⟩), .pointer (some ⟨pk, 0, none⟩)] w fun e w' => e = .returned (.int .i64 0) ∧ Kept [ga, gb] w w' ∧ Two w' a ga b gb (xs.set j (farBut arg j)) (ys.set j far) := by
  have mS := m_Set
  have c1 := h1.cell
  have c2 := h2.cell
  have c3 := h3.cell
  by_cases he : arg = j
  · subst he
    have H := hid (show farBut arg arg = 0 by simp [farBut])
    go_enter Tryz.func88, Tryz.ntmps88
    go_wp2_with fail
    refine (Set_ok a ga xs arg _ _ h.cur hj hn).mono ?_; rintro e w' ⟨rfl, hk, hv⟩
    have c3' := (h3.kept hk (by simp)).cell
    go_wp2_with fail
    have h' := h.setCur hk hv
    refine (Set_ok b gb ys arg _ _ h'.acc hj2 hm).mono ?_; rintro e w' ⟨rfl, hk', hv'⟩
    go_wp2
    go_ret
    refine ⟨rfl, (hk.to (by simp)).trans (hk'.to (by simp)), ?_⟩
    rw [H.out]; exact h'.setAcc hk' hv'
  · have H := hid (show farBut arg j = far by simp [farBut, he])
    have he' : ((j : Int) == arg) = false := by simp; omega
    go_enter Tryz.func88, Tryz.ntmps88
    go_wp2_with fail
    refine (Set_ok a ga xs j _ _ h.cur hj hn).mono ?_; rintro e w' ⟨rfl, hk, hv⟩
    have c3' := (h3.kept hk (by simp)).cell
    go_wp2_with fail
    have h' := h.setCur hk hv
    refine (Set_ok b gb ys j _ _ h'.acc hj2 hm).mono ?_; rintro e w' ⟨rfl, hk', hv'⟩
    go_wp2
    go_ret
    refine ⟨rfl, (hk.to (by simp)).trans (hk'.to (by simp)), ?_⟩
    rw [H.out]; exact h'.setAcc hk' hv'
end Go.Proofs.YtedljgohmlilgaaGreat
/-
  The walk of bfs.Begin.
-/
namespace Go.Proofs.YtedljgohmlilgaaGreat
open Go.RowKit
set_option linter.unusedVariables false

set_option maxRecDepth 100000 in
set_option maxHeartbeats 1000000 in
theorem bfsBegin_ok (a b ga gb : Nat) (xs ys : List Int) (arg : Nat) (w : World) (h : Two w a ga b gb xs ys) (hl : ys.length = xs.length) (hn : xs.length ≤ 256) (h1 : 1 ≤ xs.length) (hx : arg < xs.length) :
    Calls Tryz.prog 44 #[vec a, vec b, .int .i64 arg] w fun e w' => e = .returned (.int .i64 0) ∧ Kept [ga, gb] w w' ∧ Two w' a ga b gb (tab (farBut arg) xs.length) (tab (fun _ => far) xs.length) := by
  have mL := m_Len
  have HL := hid hl; clear hl
  have hlt := h.lt
  have d1 : decide ((arg : Int) < 0) = false := by simp
  have d2 : decide ((xs.length : Int) ≤ arg) = false := by simp; omega
  go_enter Tryz.func44, Tryz.ntmps44
  go_wp2_with fail
  have hk0 : Kept [] w (((w.alloc (.cells #[vec a] 144)).alloc (.cells #[vec b] 144)).alloc (.cells #[.int .i64 arg] 3)) := (((Kept.refl _ _).alloc _).alloc _).alloc _
  have h0 := h.ext hk0
  refine (Check_ok a b ga gb xs ys _ h0.cur h0.acc h1 hn HL.out).mono ?_
  rintro e w1 ⟨rfl, hw⟩
  have b1 : Box w1 [ga, gb] w.heap.size (vec a) := ⟨by rw [← hw]; exact old_cell _ (old_cell _ (new_cell (by simp))), by simp; omega⟩
  have b2 : Box w1 [ga, gb] (w.heap.size + 1) (vec b) := ⟨by rw [← hw]; exact old_cell _ (new_cell (by simp)), by simp; omega⟩
  have b3 : Box w1 [ga, gb] (w.heap.size + 1 + 1) (.int .i64 arg) := ⟨by rw [← hw]; exact new_cell (by simp), by simp; omega⟩
  rw [hw] at hk0 h0
  clear hw
  have c1 := b1.cell
  have c2 := b2.cell
  have c3 := b3.cell
  go_wp2_with fail
  go_quiet ((go_at_call 154; exact quiet_same (Len_ok a ga xs _ (h0.ext ((Kept.refl _ _).drewN _)).cur)))
  have hk1 : Kept [] w (w1.drewN nq) := hk0.drewN nq
  have h2 := h0.ext ((Kept.refl [] w1).drewN nq)
  replace b1 := b1.ext ((Kept.refl [] w1).drewN nq)
  replace b2 := b2.ext ((Kept.refl [] w1).drewN nq)
  replace b3 := b3.ext ((Kept.refl [] w1).drewN nq)
  go_wp2_with fail
  refine (Len_ok a ga xs _ h2.cur).mono ?_
  rintro e w2 ⟨rfl, rfl⟩
  go_wp2_with fail
  have HJ := Each_ok [ga, gb] xs.length 88 #[.pointer (some ⟨w.heap.size + 1 + 1, 0, none⟩), .pointer (some ⟨w.heap.size, 0, none⟩), .pointer (some ⟨w.heap.size + 1, 0, none⟩)] enters_bfsBegin1
    (fun j wr => Two wr a ga b gb (setTo (farBut arg) j xs) (setTo (fun _ => far) j ys) ∧ Box wr [ga, gb] w.heap.size (vec a) ∧ Box wr [ga, gb] (w.heap.size + 1) (vec b) ∧ Box wr [ga, gb] (w.heap.size + 1 + 1) (.int .i64 arg)) (w1.drewN nq) hn ⟨h2, b1, b2, b3⟩
    (fun j wr hj ⟨q, q1, q2, q3⟩ => (bfsBegin1_ok a b ga gb (w.heap.size + 1 + 1) w.heap.size (w.heap.size + 1) _ _ arg j wr q (by rw [setTo_length]; exact hj) (by rw [setTo_length, HL.out]; exact hj) (by rw [setTo_length]; exact hn) (by rw [setTo_length, HL.out]; exact hn) q3 q1 q2).mono
      fun e w' ⟨he, hk, ht⟩ => ⟨he, ⟨ht, q1.kept hk (by simp), q2.kept hk (by simp), q3.kept hk (by simp)⟩, hk⟩)
  refine HJ.mono ?_
  rintro e w2 ⟨rfl, ⟨q, _⟩, hk⟩
  go_wp2
  go_ret
  refine ⟨rfl, hk1.of_nil.trans hk, ?_⟩
  rw [setTo_all, ← HL.out, setTo_all, HL.out] at q
  exact q
end Go.Proofs.YtedljgohmlilgaaGreat
/-
  The walk of bfs.Shard.
-/
namespace Go.Proofs.YtedljgohmlilgaaGreat
open Go.RowKit
set_option linter.unusedVariables false

theorem enters_bfsShard1 : Enters 91 := ⟨fun _ _ => by kernel_rfl⟩

set_option maxRecDepth 100000 in
set_option maxHeartbeats 1000000 in
theorem bfsShard1_ok (a b ga gb pc pr pk : Nat) (xs ys : List Int) (round u v m : Nat) (w : World) (h : Two w a ga b gb xs ys) (hu : u < xs.length) (hv : v < ys.length) (hn : xs.length ≤ 256) (hm : ys.length ≤ 256) (hr : round ≤ 1000000)
    (h1 : Box w [gb] pc (vec a)) (h2 : Box w [gb] pr (.int .i64 round)) (h3 : Box w [gb] pk (vec b)) :
    Calls Tryz.prog 91 #[.int .i64 u, .int .i64 v, .int .i64 m, .pointer (some ⟨pc, 0, none⟩), .pointer (some ⟨pr, 0, none⟩), .pointer (some ⟨pk, 0, none⟩)] w fun e w' => e = .returned (.int .i64 0) ∧ Kept [gb] w w' ∧ Two w' a ga b gb xs (bfsEdge round xs ys (u, v, m)) := by
  have mG := m_Get
  have c1 := h1.cell
  have c2 := h2.cell
  have c3 := h3.cell
  by_cases he : nth xs u = round
  · have H := hid (show bfsEdge round xs ys (u, v, m) = lower ys v (round + 1) by simp [bfsEdge, he])
    have d1 : (nth xs u == (round : Int)) = true := by simp [he]
    have he' := hid he
    clear he
    have hw := hid (show IntKind.u64.wrap (nth xs u + 1) = (round : Int) + 1 by rw [he'.out]; exact u64_in (by omega) (by omega))
    by_cases hlt : (round : Int) + 1 < nth ys v
    · have H2 := hid (lower_lt hlt)
      go_enter Tryz.func91, Tryz.ntmps91
      go_wp2_with fail
      refine (Get_ok a ga xs u _ h.cur hu hn).mono ?_; rintro e w' ⟨rfl, rfl⟩
      go_wp2_with fail
      rw [hw.out]
      refine (Less_lt b gb ys v _ _ h.acc hv hm hlt).mono ?_; rintro e w' ⟨rfl, hk, hq⟩
      go_wp2
      go_ret
      exact ⟨rfl, hk, by rw [H.out, H2.out]; exact h.setAcc hk hq⟩
    · have H2 := hid (lower_ge hlt)
      have hge : nth ys v ≤ (round : Int) + 1 := by omega
      clear hlt
      go_enter Tryz.func91, Tryz.ntmps91
      go_wp2_with fail
      refine (Get_ok a ga xs u _ h.cur hu hn).mono ?_; rintro e w' ⟨rfl, rfl⟩
      go_wp2_with fail
      rw [hw.out]
      refine (Less_ge b gb ys v _ _ h.acc hv hm hge).mono ?_; rintro e w' ⟨rfl, rfl⟩
      go_wp2
      go_ret
      exact ⟨rfl, Kept.refl _ _, by rw [H.out, H2.out]; exact h⟩
  · have H := hid (show bfsEdge round xs ys (u, v, m) = ys by simp [bfsEdge, he])
    have d1 : (nth xs u == (round : Int)) = false := by simp [he]
    clear he
    go_enter Tryz.func91, Tryz.ntmps91
    go_wp2_with fail
    refine (Get_ok a ga xs u _ h.cur hu hn).mono ?_; rintro e w' ⟨rfl, rfl⟩
    go_wp2
    go_ret
    exact ⟨rfl, Kept.refl _ _, by rw [H.out]; exact h⟩

end Go.Proofs.YtedljgohmlilgaaGreat
/-
  The walk of bfs.Shard, on its closure's.
-/
namespace Go.Proofs.YtedljgohmlilgaaGreat
open Go.RowKit
set_option linter.unusedVariables false

set_option maxRecDepth 100000 in
set_option maxHeartbeats 1000000 in
theorem bfsShard_ok (L : List Nat) (a b ga gb : Nat) (xs ys : List Int) (fr : Nat) (t : Int) (o : Option Addr) (c : Nat) (rows : List (List Nat)) (round : Nat) (w : World) (h : Two w a ga b gb xs ys) (hl : ys.length = xs.length) (hn : xs.length ≤ 256) (h1 : 1 ≤ xs.length)
    (ho : IsOut w L o rows) (hgb : gb ∈ L) (t1 : t ≤ xs.length) (t2 : (fr : Int) + rows.length ≤ t) (t3 : t ≤ fr + rows.length) (hw : Within rows xs.length) (hsz : ∀ i, i < rows.length → (row rows i).length ≤ 4611686018427387904) (hr : round ≤ 1000000) :
    Calls Tryz.prog 46 #[vec a, vec b, .agg #[.int .i64 fr, .int .i64 t, .slice o rows.length c], .int .i64 round] w fun e w' => e = .returned (.int .i64 0) ∧ Kept [gb] w w' ∧ Two w' a ga b gb xs (bfsShard round xs ys (edgesOf fr rows)) := by
  have mL := m_Len
  have HL := hid hl; clear hl
  have HW := hid hw; clear hw
  have HZ := hid hsz; clear hsz
  have hlt := h.lt
  have d1 : decide ((round : Int) < 0) = false := by simp
  have HE := hid (show ∀ j u v m, (edgesOf fr rows)[j]? = some (u, v, m) → u < xs.length ∧ v < xs.length from fun j u v m e => by
    obtain ⟨i, k, hi, hk, he⟩ := edgesOf_mem _ _ _ (List.mem_of_getElem? e)
    simp only [Prod.mk.injEq] at he
    exact ⟨by omega, by rw [he.2.1]; exact HW.out i hi k hk⟩)
  go_enter Tryz.func46, Tryz.ntmps46
  go_wp2_with fail
  have hk0 : Kept [] w ((((w.alloc (.cells #[vec a] 144)).alloc (.cells #[vec b] 144)).alloc (.cells #[.int .i64 fr, .int .i64 t, .slice o rows.length c] 43)).alloc (.cells #[.int .i64 round] 3)) := ((((Kept.refl _ _).alloc _).alloc _).alloc _).alloc _
  have h0 := h.ext hk0
  refine (Check_ok a b ga gb xs ys _ h0.cur h0.acc h1 hn HL.out).mono ?_
  rintro e w1 ⟨rfl, hw⟩
  have b1 : Box w1 [gb] w.heap.size (vec a) := ⟨by rw [← hw]; exact old_cell _ (old_cell _ (old_cell _ (new_cell (by simp)))), by simp; omega⟩
  have b2 : Box w1 [gb] (w.heap.size + 1) (vec b) := ⟨by rw [← hw]; exact old_cell _ (old_cell _ (new_cell (by simp))), by simp; omega⟩
  have b3 : BoxO w1 [gb] (w.heap.size + 1 + 1) (.cells #[.int .i64 fr, .int .i64 t, .slice o rows.length c] 43) := ⟨by rw [← hw]; exact obj_alloc_old (new_obj (by simp)) _, by simp; omega⟩
  have b4 : Box w1 [gb] (w.heap.size + 1 + 1 + 1) (.int .i64 round) := ⟨by rw [← hw]; exact new_cell (by simp), by simp; omega⟩
  rw [hw] at hk0 h0
  clear hw
  have c1 := b1.cell
  have c2 := b2.cell
  have c3 : w1.cell? ⟨w.heap.size + 1 + 1, 0, none⟩ = some (.int .i64 fr) := cell_of_obj b3.obj 0
  have c3' : w1.cell? ⟨w.heap.size + 1 + 1, 1, none⟩ = some (.int .i64 t) := cell_of_obj b3.obj 1
  have c3'' : w1.cell? ⟨w.heap.size + 1 + 1, 2, none⟩ = some (.slice o rows.length c) := cell_of_obj b3.obj 2
  have c4 := b4.cell
  go_wp2_with fail
  have ho1 := ho.kept hk0 (by simp)
  go_cut [10] (fun s wx => s = .int .i64 0 ∧ Kept [] w1 wx)
  case first =>
    go_region_with (first | (go_at_call 154; refine (Len_ok a ga xs _ (h0.ext (Kept.refl _ _).drew).cur).mono ?_; rintro e w' ⟨rfl, rfl⟩) | (go_at_call 89; refine (Fits_ok L fr xs.length t o c rows _ (ho1.kept (Kept.refl [] _).drew (by simp)) t1 t2 t3 hn HW.out HZ.out).mono ?_; rintro e w2 ⟨rfl, hk2⟩))
    all_goals (go_wp2_with fail; go_meet; exact ⟨rfl, (Kept.refl [] w1).drew.trans (by assumption)⟩)
  case rest =>
    obtain ⟨rfl, hk2⟩ := hcut
    have h2 := h0.ext hk2
    replace b1 := b1.ext hk2
    replace b2 := b2.ext hk2
    replace b3 := b3.ext hk2
    replace b4 := b4.ext hk2
    replace ho1 := ho1.kept hk2 (by simp)
    replace c4 := b4.cell
    replace c3 : wc.cell? ⟨w.heap.size + 1 + 1, 0, none⟩ = some (.int .i64 fr) := cell_of_obj b3.obj 0
    replace c3' : wc.cell? ⟨w.heap.size + 1 + 1, 1, none⟩ = some (.int .i64 t) := cell_of_obj b3.obj 1
    replace c3'' : wc.cell? ⟨w.heap.size + 1 + 1, 2, none⟩ = some (.slice o rows.length c) := cell_of_obj b3.obj 2
    clear c1 c2
    go_wp2_with fail
    have HJ := Edges_ok [gb] L (by simpa using hgb) fr t o c rows 91 #[.pointer (some ⟨w.heap.size, 0, none⟩), .pointer (some ⟨w.heap.size + 1 + 1 + 1, 0, none⟩), .pointer (some ⟨w.heap.size + 1, 0, none⟩)] enters_bfsShard1
      (fun j wr => Two wr a ga b gb xs (bfsShard round xs ys ((edgesOf fr rows).take j)) ∧ Box wr [gb] w.heap.size (vec a) ∧ Box wr [gb] (w.heap.size + 1) (vec b) ∧ Box wr [gb] (w.heap.size + 1 + 1 + 1) (.int .i64 round)) wc
      (by simpa using h2.lt.2.2.2) ho1 (by omega) HZ.out ⟨by simpa [bfsShard] using h2, b1, b2, b4⟩
      (fun j w w' ⟨q, q1, q2, q3⟩ hk => ⟨q.ext hk, q1.ext hk, q2.ext hk, q3.ext hk⟩)
      (fun j u v m wr he ⟨q, q1, q2, q3⟩ => (bfsShard1_ok a b ga gb w.heap.size (w.heap.size + 1 + 1 + 1) (w.heap.size + 1) _ _ round u v m wr q (HE.out _ _ _ _ he).1 (by rw [bfsShard_length, HL.out]; exact (HE.out _ _ _ _ he).2) hn (by rw [bfsShard_length, HL.out]; exact hn) hr q1 q3 q2).mono
        fun e w' ⟨hr, hk, ht⟩ => ⟨hr, ⟨by rw [bfsShard, foldl_take_succ _ _ _ _ _ he]; exact ht, q1.kept hk (by simp), q2.kept hk (by simp), q3.kept hk (by simp)⟩, hk⟩)
    refine HJ.mono ?_
    rintro e w2 ⟨rfl, ⟨q, _⟩, hk⟩
    go_wp2
    go_ret
    rw [List.take_length] at q
    exact ⟨rfl, (hk0.trans hk2).of_nil.trans hk, q⟩
end Go.Proofs.YtedljgohmlilgaaGreat
/-
  The walk of bfs.Commit's closure.
-/
namespace Go.Proofs.YtedljgohmlilgaaGreat
open Go.RowKit
set_option linter.unusedVariables false

theorem enters_bfsCommit1 : Enters 93 := ⟨fun _ _ => by kernel_rfl⟩

set_option maxRecDepth 100000 in
set_option maxHeartbeats 1000000 in
theorem bfsCommit1_far (a b ga gb pk pc pd : Nat) (xs ys : List Int) (i : Nat) (w : World) (h : Two w a ga b gb xs ys) (hi : i < xs.length) (hi2 : i < ys.length) (hm : ys.length ≤ 256) (dn : Bool)
    (h1 : Box w [ga, gb, pd] pc (vec a)) (h2 : Box w [ga, gb, pd] pk (vec b)) (he : nth ys i = far) :
    Calls Tryz.prog 93 #[.int .i64 i, .pointer (some ⟨pk, 0, none⟩), .pointer (some ⟨pc, 0, none⟩), .pointer (some ⟨pd, 0, none⟩)] w fun e w' => e = .returned (.int .i64 0) ∧ w = w' := by
  have mG := m_Get
  have c2 := h2.cell
  have d1 : (nth ys i == (18446744073709551615 : Int)) = true := by rw [he]; decide
  clear he
  go_enter Tryz.func93, Tryz.ntmps93
  go_wp2_with fail
  refine (Get_ok b gb ys i _ h.acc hi2 hm).mono ?_; rintro e w' ⟨rfl, rfl⟩
  go_wp2
  go_ret
  exact ⟨rfl, rfl⟩

/-- Behind a closure's round: what was written. -/
structure Round (S : List Nat) (w w' : World) (a ga b gb : Nat) (xs ys : List Int) (pd : Nat) (dn : Bool) : Prop where
  kept : Kept S w w'
  two : Two w' a ga b gb xs ys
  done : w'.heap[pd]? = some (.cells #[.bool dn] 4 (0, 0))

set_option maxRecDepth 100000 in
set_option maxHeartbeats 1000000 in
theorem bfsCommit1_lt (a b ga gb pk pc pd : Nat) (xs ys : List Int) (i : Nat) (w : World) (h : Two w a ga b gb xs ys) (hi : i < xs.length) (hi2 : i < ys.length) (hn : xs.length ≤ 256) (hm : ys.length ≤ 256) (dn : Bool)
    (h1 : Box w [ga, gb, pd] pc (vec a)) (h2 : Box w [ga, gb, pd] pk (vec b)) (hb : w.heap[pd]? = some (.cells #[.bool dn] 4 (0, 0))) (hpd : pd ≠ a ∧ pd ≠ ga ∧ pd ≠ b ∧ pd ≠ gb) (he : nth ys i ≠ far) (hlt : nth ys i < nth xs i) :
    Calls Tryz.prog 93 #[.int .i64 i, .pointer (some ⟨pk, 0, none⟩), .pointer (some ⟨pc, 0, none⟩), .pointer (some ⟨pd, 0, none⟩)] w fun e w' => e = .returned (.int .i64 0) ∧ Round [ga, gb, pd] w w' a ga b gb (xs.set i (nth ys i)) (ys.set i far) pd false := by
  have mG := m_Get
  have mS := m_Set
  have c1 := h1.cell
  have c2 := h2.cell
  have d1 : (nth ys i == (18446744073709551615 : Int)) = false := by simpa [far] using he
  clear he
  go_enter Tryz.func93, Tryz.ntmps93
  go_wp2_with fail
  refine (Get_ok b gb ys i _ h.acc hi2 hm).mono ?_; rintro e w' ⟨rfl, rfl⟩
  go_wp2_with fail
  refine (Less_lt a ga xs i _ _ h.cur hi hn hlt).mono ?_; rintro e w2 ⟨rfl, hk, hq⟩
  have hb2 := hk.obj hb (by simp; omega)
  have hd2 : w2.cell? ⟨pd, 0, none⟩ = some (.bool dn) := cell_of_obj hb2 0
  have hf2 : w2.frozen? ⟨pd, 0, none⟩ = false := frozen_of_obj hb2 0
  have c2' := (h2.kept hk (by simp)).cell
  have h' := h.setCur hk hq
  clear hlt
  have hk3 : Kept [pd] w2 (w2.setCell ⟨pd, 0, none⟩ (.bool false)) := (Kept.refl _ _).setCell (by simp) _
  have c2'' := ((h2.kept hk (by simp)).kept hk3 (by simp)).cell
  have h3 := h'.kept hk3 (by simp; omega)
  have hd3 : (w2.setCell ⟨pd, 0, none⟩ (.bool false)).heap[pd]? = some (.cells #[.bool false] 4 (0, 0)) := obj_setCell hb2 0 _
  cases dn
  all_goals
    go_wp2_with fail
    refine (Set_ok b gb ys i far _ h3.acc hi2 hm).mono ?_; rintro e w4 ⟨rfl, hk4, hq4⟩
    go_wp2
    go_ret
    exact ⟨rfl, ((hk.to (by simp)).trans (hk3.to (by simp))).trans (hk4.to (by simp)), h3.setAcc hk4 hq4, hk4.obj hd3 (by simp; omega)⟩

set_option maxRecDepth 100000 in
set_option maxHeartbeats 1000000 in
theorem bfsCommit1_ge (a b ga gb pk pc pd : Nat) (xs ys : List Int) (i : Nat) (w : World) (h : Two w a ga b gb xs ys) (hi : i < xs.length) (hi2 : i < ys.length) (hn : xs.length ≤ 256) (hm : ys.length ≤ 256) (dn : Bool)
    (h1 : Box w [ga, gb, pd] pc (vec a)) (h2 : Box w [ga, gb, pd] pk (vec b)) (hb : w.heap[pd]? = some (.cells #[.bool dn] 4 (0, 0))) (hpd : pd ≠ a ∧ pd ≠ ga ∧ pd ≠ b ∧ pd ≠ gb) (he : nth ys i ≠ far) (hge : nth xs i ≤ nth ys i) :
    Calls Tryz.prog 93 #[.int .i64 i, .pointer (some ⟨pk, 0, none⟩), .pointer (some ⟨pc, 0, none⟩), .pointer (some ⟨pd, 0, none⟩)] w fun e w' => e = .returned (.int .i64 0) ∧ Round [ga, gb, pd] w w' a ga b gb xs (ys.set i far) pd dn := by
  have mG := m_Get
  have mS := m_Set
  have c1 := h1.cell
  have c2 := h2.cell
  have d1 : (nth ys i == (18446744073709551615 : Int)) = false := by simpa [far] using he
  clear he
  have hk3 : Kept [pd] w (w.setCell ⟨pd, 0, none⟩ (.bool dn)) := (Kept.refl _ _).setCell (by simp) _
  have c2'' := (h2.kept hk3 (by simp)).cell
  have h3 := h.kept hk3 (by simp; omega)
  have hd : w.cell? ⟨pd, 0, none⟩ = some (.bool dn) := cell_of_obj hb 0
  have hf : w.frozen? ⟨pd, 0, none⟩ = false := frozen_of_obj hb 0
  have hd3 : (w.setCell ⟨pd, 0, none⟩ (.bool dn)).heap[pd]? = some (.cells #[.bool dn] 4 (0, 0)) := obj_setCell hb 0 _
  cases dn
  all_goals
    go_enter Tryz.func93, Tryz.ntmps93
    go_wp2_with fail
    refine (Get_ok b gb ys i _ h.acc hi2 hm).mono ?_; rintro e w' ⟨rfl, rfl⟩
    go_wp2_with fail
    refine (Less_ge a ga xs i _ _ h.cur hi hn hge).mono ?_; rintro e w2 ⟨rfl, rfl⟩
    go_wp2_with fail
    refine (Set_ok b gb ys i far _ h3.acc hi2 hm).mono ?_; rintro e w4 ⟨rfl, hk4, hq4⟩
    go_wp2
    go_ret
    exact ⟨rfl, (hk3.to (by simp)).trans (hk4.to (by simp)), h3.setAcc hk4 hq4, hk4.obj hd3 (by simp; omega)⟩

theorem bfsCommit1_ok (a b ga gb pk pc pd : Nat) (xs ys : List Int) (i : Nat) (w : World) (h : Two w a ga b gb xs ys) (hi : i < xs.length) (hi2 : i < ys.length) (hn : xs.length ≤ 256) (hm : ys.length ≤ 256) (dn : Bool)
    (h1 : Box w [ga, gb, pd] pc (vec a)) (h2 : Box w [ga, gb, pd] pk (vec b)) (hb : w.heap[pd]? = some (.cells #[.bool dn] 4 (0, 0))) (hpd : pd ≠ a ∧ pd ≠ ga ∧ pd ≠ b ∧ pd ≠ gb) :
    Calls Tryz.prog 93 #[.int .i64 i, .pointer (some ⟨pk, 0, none⟩), .pointer (some ⟨pc, 0, none⟩), .pointer (some ⟨pd, 0, none⟩)] w fun e w' => e = .returned (.int .i64 0) ∧ Round [ga, gb, pd] w w' a ga b gb (xs.set i (bfsCur xs ys i)) (ys.set i far) pd (dn && bfsSame xs ys i) := by
  by_cases he : nth ys i = far
  · refine (bfsCommit1_far a b ga gb pk pc pd xs ys i w h hi hi2 hm dn h1 h2 he).mono fun e w' ⟨h1, h2⟩ => ?_
    subst h2
    refine ⟨h1, Kept.refl _ _, ?_, ?_⟩
    · rw [show bfsCur xs ys i = nth xs i by simp [bfsCur, he], set_nth, ← he, set_nth]; exact h
    · rw [show bfsSame xs ys i = true by simp [bfsSame, he]]; simpa using hb
  · by_cases hlt : nth ys i < nth xs i
    · refine (bfsCommit1_lt a b ga gb pk pc pd xs ys i w h hi hi2 hn hm dn h1 h2 hb hpd he hlt).mono fun e w' ⟨h1, h2⟩ => ?_
      rw [show bfsCur xs ys i = nth ys i by simp [bfsCur, he, hlt], show bfsSame xs ys i = false by simp [bfsSame, he, hlt], Bool.and_false]
      exact ⟨h1, h2⟩
    · refine (bfsCommit1_ge a b ga gb pk pc pd xs ys i w h hi hi2 hn hm dn h1 h2 hb hpd he (by omega)).mono fun e w' ⟨h1, h2⟩ => ?_
      rw [show bfsCur xs ys i = nth xs i by simp [bfsCur, he, hlt], set_nth, show bfsSame xs ys i = true by simp [bfsSame, he, hlt], Bool.and_true]
      exact ⟨h1, h2⟩
end Go.Proofs.YtedljgohmlilgaaGreat
/-
  The walk of bfs.Commit.
-/
namespace Go.Proofs.YtedljgohmlilgaaGreat
open Go.RowKit
set_option linter.unusedVariables false

theorem bfsCur_of {xs ys xs' ys' : List Int} {i : Nat} (h1 : nth xs' i = nth xs i) (h2 : nth ys' i = nth ys i) : bfsCur xs' ys' i = bfsCur xs ys i := by simp [bfsCur, h1, h2]
theorem bfsSame_of {xs ys xs' ys' : List Int} {i : Nat} (h1 : nth xs' i = nth xs i) (h2 : nth ys' i = nth ys i) : bfsSame xs' ys' i = bfsSame xs ys i := by simp [bfsSame, h1, h2]

set_option maxRecDepth 100000 in
set_option maxHeartbeats 1000000 in
theorem bfsCommit_ok (a b ga gb : Nat) (xs ys : List Int) (arg round : Int) (w : World) (h : Two w a ga b gb xs ys) (hl : ys.length = xs.length) (hn : xs.length ≤ 256) (h1 : 1 ≤ xs.length) :
    Calls Tryz.prog 48 #[vec a, vec b, .int .i64 arg, .int .i64 round] w fun e w' => e = .returned (.tuple #[.bool (bfsDone xs ys), .int .i64 0]) ∧ Kept [ga, gb] w w' ∧ Two w' a ga b gb (tab (bfsCur xs ys) xs.length) (tab (fun _ => far) xs.length) := by
  have mL := m_Len
  have HL := hid hl; clear hl
  have hlt := h.lt
  go_enter Tryz.func48, Tryz.ntmps48
  go_wp2_with fail
  have hk0 : Kept [] w (((w.alloc (.cells #[vec a] 144)).alloc (.cells #[vec b] 144)).alloc (.cells #[.bool false] 4)) := (((Kept.refl _ _).alloc _).alloc _).alloc _
  have h0 := h.ext hk0
  refine (Check_ok a b ga gb xs ys _ h0.cur h0.acc h1 hn HL.out).mono ?_
  rintro e w1 ⟨rfl, hw⟩
  have hp : w.heap.size + 1 + 1 ≠ a ∧ w.heap.size + 1 + 1 ≠ ga ∧ w.heap.size + 1 + 1 ≠ b ∧ w.heap.size + 1 + 1 ≠ gb := by omega
  have b1 : Box w1 [ga, gb, w.heap.size + 1 + 1] w.heap.size (vec a) := ⟨by rw [← hw]; exact old_cell _ (old_cell _ (new_cell (by simp))), by simp; omega⟩
  have b2 : Box w1 [ga, gb, w.heap.size + 1 + 1] (w.heap.size + 1) (vec b) := ⟨by rw [← hw]; exact old_cell _ (new_cell (by simp)), by simp; omega⟩
  have b3 : w1.heap[w.heap.size + 1 + 1]? = some (.cells #[.bool false] 4 (0, 0)) := by rw [← hw]; exact new_obj (by simp)
  rw [hw] at hk0 h0
  clear hw
  have c3 : w1.cell? ⟨w.heap.size + 1 + 1, 0, none⟩ = some (.bool false) := cell_of_obj b3 0
  have f3 : w1.frozen? ⟨w.heap.size + 1 + 1, 0, none⟩ = false := frozen_of_obj b3 0
  have hk2 : Kept [w.heap.size + 1 + 1] w1 (w1.setCell ⟨w.heap.size + 1 + 1, 0, none⟩ (.bool true)) := (Kept.refl _ _).setCell (by simp) _
  replace b3 : (w1.setCell ⟨w.heap.size + 1 + 1, 0, none⟩ (.bool true)).heap[w.heap.size + 1 + 1]? = some (.cells #[.bool true] 4 (0, 0)) := obj_setCell b3 0 _
  replace b1 := b1.kept hk2 (by simp)
  replace b2 := b2.kept hk2 (by simp)
  replace h0 := h0.kept hk2 (by simp; omega)
  have c1 := b1.cell
  have c2 := b2.cell
  go_wp2_with fail
  refine (Len_ok a ga xs _ h0.cur).mono ?_
  rintro e w2 ⟨rfl, hw⟩
  rw [hw] at hk2 h0 b1 b2 b3
  clear hw c1 c2
  go_wp2_with fail
  have HJ := Each_ok [ga, gb, w.heap.size + 1 + 1] xs.length 93 #[.pointer (some ⟨w.heap.size + 1, 0, none⟩), .pointer (some ⟨w.heap.size, 0, none⟩), .pointer (some ⟨w.heap.size + 1 + 1, 0, none⟩)] enters_bfsCommit1
    (fun j wr => Two wr a ga b gb (setTo (bfsCur xs ys) j xs) (setTo (fun _ => far) j ys) ∧ Box wr [ga, gb, w.heap.size + 1 + 1] w.heap.size (vec a) ∧ Box wr [ga, gb, w.heap.size + 1 + 1] (w.heap.size + 1) (vec b) ∧ wr.heap[w.heap.size + 1 + 1]? = some (.cells #[.bool (allTo (bfsSame xs ys) j)] 4 (0, 0))) w2 hn ⟨h0, b1, b2, b3⟩
    (fun j wr hj ⟨q, q1, q2, q3⟩ => (bfsCommit1_ok a b ga gb (w.heap.size + 1) w.heap.size (w.heap.size + 1 + 1) _ _ j wr q (by rw [setTo_length]; exact hj) (by rw [setTo_length, HL.out]; exact hj) (by rw [setTo_length]; exact hn) (by rw [setTo_length, HL.out]; exact hn) _ q1 q2 q3 hp).mono
      fun e w' ⟨he, hr⟩ => ⟨he, ⟨by rw [setTo, setTo, ← bfsCur_of (nth_setTo_past _ j xs) (nth_setTo_past _ j ys)]; exact hr.two, q1.kept hr.kept (by simp), q2.kept hr.kept (by simp), by rw [allTo, ← bfsSame_of (nth_setTo_past _ j xs) (nth_setTo_past _ j ys)]; exact hr.done⟩, hr.kept⟩)
  refine HJ.mono ?_
  rintro e w3 ⟨rfl, ⟨q, _, _, q3⟩, hk⟩
  have c3 : w3.cell? ⟨w.heap.size + 1 + 1, 0, none⟩ = some (.bool (allTo (bfsSame xs ys) xs.length)) := cell_of_obj q3 0
  have f3 : w3.frozen? ⟨w.heap.size + 1 + 1, 0, none⟩ = false := frozen_of_obj q3 0
  have HD := hid (show bfsDone xs ys = allTo (bfsSame xs ys) xs.length from rfl)
  have hk4 : ∀ v, Kept [ga, gb] w (w3.setCell ⟨w.heap.size + 1 + 1, 0, none⟩ v) := fun v => (((hk0.of_nil (S := [ga, gb, w.heap.size + 1 + 1])).trans (hk2.to (by simp))).trans hk).setCell (by simp) v |>.to (by intro k hk; simp at hk ⊢; omega)
  have q' : ∀ v, Two (w3.setCell ⟨w.heap.size + 1 + 1, 0, none⟩ v) a ga b gb (tab (bfsCur xs ys) xs.length) (tab (fun _ => far) xs.length) := fun v => by
    rw [setTo_all, ← HL.out, setTo_all, HL.out] at q
    exact q.kept ((Kept.refl [w.heap.size + 1 + 1] _).setCell (by simp) _) (by simp; omega)
  generalize allTo (bfsSame xs ys) xs.length = dn at c3 HD q3
  have c5 : ∀ v, (w3.setCell ⟨w.heap.size + 1 + 1, 0, none⟩ v).cell? ⟨w.heap.size + 1 + 1, 0, none⟩ = some v := fun v => World.cell?_setCell_same _ _ _ c3
  cases dn
  · have c6 := c5 (.bool false)
    have hk6 := hk4 (.bool false)
    have q6 := q' (.bool false)
    clear c5 hk4 q'
    go_wp2
    exact bodyPost_ret (v := .tuple #[.bool false, .int .i64 0]) (by simp [results, Tryz.results48, go_sem, c6]) rfl ⟨by rw [HD.out], hk6, q6⟩
  · have c6 := c5 (.bool true)
    have hk6 := hk4 (.bool true)
    have q6 := q' (.bool true)
    clear c5 hk4 q'
    go_wp2
    exact bodyPost_ret (v := .tuple #[.bool true, .int .i64 0]) (by simp [results, Tryz.results48, go_sem, c6]) rfl ⟨by rw [HD.out], hk6, q6⟩
end Go.Proofs.YtedljgohmlilgaaGreat
