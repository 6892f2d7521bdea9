/-
  The walks of kernels.Begin, Shard, Commit, for each kind.
-/
import Derived.Test.YtedljgohmlilgaaGreatGKerT
import Derived.Test.YtedljgohmlilgaaGreatKerP
import Derived.Test.YtedljgohmlilgaaGreatGBfs
import Derived.Test.YtedljgohmlilgaaGreatGRank
import Derived.Test.YtedljgohmlilgaaGreatGLab
import Derived.Test.YtedljgohmlilgaaGreatGCores
import Derived.Deep.RegionHeld3
namespace Go.Proofs.YtedljgohmlilgaaGreat
open Go.RowKit
set_option linter.unusedVariables false
set_option linter.unusedSimpArgs false

set_option maxRecDepth 100000 in
set_option maxHeartbeats 2000000 in
theorem kcheck_ok (k g p d a b ga gb : Nat) (xs ys : List Int) (w : World) (ha : Vec w a ga xs) (hb : Vec w b gb ys) (h1 : 1 ≤ xs.length) (h2 : xs.length ≤ 256) (h3 : ys.length = xs.length) (h : okReq k g xs.length) (hp : p ≤ 7) :
    Calls Tryz.prog 29 #[rq k g p d, vec a, vec b] w fun e w' => e = .returned (.int .i64 0) ∧ Kept [] w w' := by
  have mL := m_Len
  have H3 := hid h3; clear h3
  go_enter Tryz.func29, Tryz.ntmps29
  go_wp2_with fail
  have kb : Kept [] w (w.alloc (.cells #[.int .i64 k, .int .i64 g, .int .i64 p, .int .i64 d] 45)) := (Kept.refl _ _).alloc _
  refine (Check_ok a b ga gb xs ys _ (ha.kept kb (by simp) (by simp)) (hb.kept kb (by simp) (by simp)) h1 h2 H3.out).mono ?_
  rintro e w1 ⟨rfl, hw⟩
  have ob : w1.heap[w.heap.size]? = some (.cells #[.int .i64 k, .int .i64 g, .int .i64 p, .int .i64 d] 45 (0, 0)) := by rw [← hw]; exact new_obj rfl
  rw [hw] at kb
  clear hw
  have c0 : w1.cell? ⟨w.heap.size, 0, none⟩ = some (.int .i64 k) := cell_of_obj ob 0
  have c1 : w1.cell? ⟨w.heap.size, 1, none⟩ = some (.int .i64 g) := cell_of_obj ob 1
  have c2 : w1.cell? ⟨w.heap.size, 2, none⟩ = some (.int .i64 p) := cell_of_obj ob 2
  have c3 : w1.cell? ⟨w.heap.size, 3, none⟩ = some (.int .i64 d) := cell_of_obj ob 3
  have KB := hid kb
  have va := hid (ha.kept kb (by simp) (by simp))
  clear kb ob
  go_wp2_with fail
  go_region_held3 (fun w' => w'.cell? ⟨w.heap.size, 0, none⟩ = some (.int .i64 k) ∧ w'.cell? ⟨w.heap.size, 1, none⟩ = some (.int .i64 g) ∧ w'.cell? ⟨w.heap.size, 2, none⟩ = some (.int .i64 p) ∧ w'.cell? ⟨w.heap.size, 3, none⟩ = some (.int .i64 d))
    (first
      | exact ⟨c0, c1, c2, c3⟩
      | exact ⟨hk3.cell_some c0 (by simp), hk3.cell_some c1 (by simp), hk3.cell_some c2 (by simp), hk3.cell_some c3 (by simp)⟩)
    (first
      | (go_at_call 154; refine (Len_ok a ga xs _ (va.out.kept ((Kept.refl [] w1).drew) (by simp) (by simp))).mono ?_; rintro e w2 ⟨rfl, rfl⟩)
      | (go_at_call 17; refine (tCheck_ok k g p d xs.length _ h hp h1 h2).mono ?_; rintro e w3 ⟨rfl, hk3⟩))
  all_goals (
    have HK := hid (KB.out.drew.trans hk3)
    clear hk3
    go_wp2_with fail
    go_ret
    exact ⟨rfl, HK.out⟩)

set_option maxRecDepth 100000 in
set_option maxHeartbeats 1000000 in
theorem kof1_ok (a b ga gb : Nat) (xs ys : List Int) (arg : Nat) (w : World) (h : Two w a ga b gb xs ys) (hl : ys.length = xs.length) (hn : xs.length ≤ 256) (h1 : 1 ≤ xs.length) (hx : arg < xs.length) :
    Calls Tryz.prog 43 #[vec a, vec b, .int .i64 arg] w fun e w' => e = .returned (.int .i64 0) ∧ Kept [ga, gb] w w' ∧ Two w' a ga b gb (tab (farBut arg) xs.length) (tab (fun _ => far) xs.length) := by
  have HL := hid hl; clear hl
  go_enter Tryz.func43, Tryz.ntmps43
  go_wp2_with fail
  refine (bfsBegin_ok a b ga gb xs ys arg _ h HL.out hn h1 hx).mono ?_
  rintro e w2 ⟨rfl, hk2, ht2⟩
  have K := hid hk2
  have T := hid ht2
  clear hk2 ht2
  go_wp2_with fail
  go_ret
  exact ⟨rfl, K.out, T.out⟩

set_option maxRecDepth 100000 in
set_option maxHeartbeats 1000000 in
theorem kof2_ok (L : List Nat) (a b ga gb : Nat) (xs ys : List Int) (fr : Nat) (t : Int) (o : Option Addr) (c : Nat) (rows : List (List Nat)) (round : Nat) (w : World) (h : Two w a ga b gb xs ys) (hl : ys.length = xs.length) (hn : xs.length ≤ 256) (h1 : 1 ≤ xs.length)
    (ho : IsOut w L o rows) (hgb : gb ∈ L) (t1 : t ≤ xs.length) (t2 : (fr : Int) + rows.length ≤ t) (t3 : t ≤ fr + rows.length) (hw : Within rows xs.length) (hsz : ∀ i, i < rows.length → (row rows i).length ≤ 4611686018427387904) (hr : round ≤ 1000000) :
    Calls Tryz.prog 45 #[vec a, vec b, .agg #[.int .i64 fr, .int .i64 t, .slice o rows.length c], .int .i64 round] w fun e w' => e = .returned (.int .i64 0) ∧ Kept [gb] w w' ∧ Two w' a ga b gb xs (bfsShard round xs ys (edgesOf fr rows)) := by
  have HL := hid hl; clear hl
  have HW := hid hw; clear hw
  have HZ := hid hsz; clear hsz
  go_enter Tryz.func45, Tryz.ntmps45
  go_wp2_with fail
  have kb : Kept [] w (w.alloc (.cells #[.int .i64 fr, .int .i64 t, .slice o rows.length c] 43)) := (Kept.refl _ _).alloc _
  have KB := hid kb
  refine (bfsShard_ok L a b ga gb xs ys fr t o c rows round _ (h.ext kb) HL.out hn h1 (ho.kept kb (by simp)) hgb t1 t2 t3 HW.out HZ.out hr).mono ?_
  rintro e w2 ⟨rfl, hk2, ht2⟩
  have K := hid (kb.of_nil.trans hk2)
  have T := hid ht2
  clear hk2 ht2 kb
  go_wp2_with fail
  go_ret
  exact ⟨rfl, K.out, T.out⟩

set_option maxRecDepth 100000 in
set_option maxHeartbeats 1000000 in
theorem kof3_ok (a b ga gb : Nat) (xs ys : List Int) (arg round : Nat) (w : World) (h : Two w a ga b gb xs ys) (hl : ys.length = xs.length) (hn : xs.length ≤ 256) (h1 : 1 ≤ xs.length)  :
    Calls Tryz.prog 47 #[vec a, vec b, .int .i64 arg, .int .i64 round] w fun e w' => e = .returned (.tuple #[.bool (bfsDone xs ys), .int .i64 0]) ∧ Kept [ga, gb] w w' ∧ Two w' a ga b gb (tab (bfsCur xs ys) xs.length) (tab (fun _ => far) xs.length) := by
  have HL := hid hl; clear hl
  go_enter Tryz.func47, Tryz.ntmps47
  go_wp2_with fail
  refine (bfsCommit_ok a b ga gb xs ys arg round _ h HL.out hn h1 ).mono ?_
  rintro e w2 ⟨rfl, hk2, ht2⟩
  have K := hid (hk2 : Kept [ga, gb] w w2)
  have T := hid ht2
  clear hk2 ht2
  go_wp2_with fail
  go_ret2
  exact ⟨rfl, K.out, T.out⟩

set_option maxRecDepth 100000 in
set_option maxHeartbeats 2000000 in
theorem kBegin_1 (a b ga gb : Nat) (xs ys : List Int) (arg : Nat) (p d : Nat) (w : World) (h : Two w a ga b gb xs ys) (hl : ys.length = xs.length) (hn : xs.length ≤ 256) (h1 : 1 ≤ xs.length) (hx : arg < xs.length) (hp : p ≤ 7) :
    Calls Tryz.prog 19 #[rq 1 arg p d, vec a, vec b] w fun e w' => e = .returned (.int .i64 0) ∧ Kept [ga, gb] w w' ∧ Two w' a ga b gb (tab (farBut arg) xs.length) (tab (fun _ => far) xs.length) := by
  have HL := hid hl; clear hl
  have hlt := h.lt
  have ff := field_1_0
  go_enter Tryz.func19, Tryz.ntmps19
  go_wp2_with fail
  have kb : Kept [] w (w.alloc (.cells #[.int .i64 (1 : Nat), .int .i64 (arg : Nat), .int .i64 p, .int .i64 d] 45)) := (Kept.refl _ _).alloc _
  refine (kcheck_ok 1 arg p d a b ga gb xs ys _ (h.cur.kept kb (by simp) (by simp)) (h.acc.kept kb (by simp) (by simp)) h1 hn HL.out (.inl ⟨rfl, hx⟩) hp).mono ?_
  rintro e w1 ⟨rfl, hk1⟩
  have c0 := hk1.cell_some (cell_of_obj (new_obj rfl : (w.alloc (.cells #[.int .i64 (1 : Nat), .int .i64 (arg : Nat), .int .i64 p, .int .i64 d] 45)).heap[w.heap.size]? = _) 0) (by simp)
  have c1 := hk1.cell_some (cell_of_obj (new_obj rfl : (w.alloc (.cells #[.int .i64 (1 : Nat), .int .i64 (arg : Nat), .int .i64 p, .int .i64 d] 45)).heap[w.heap.size]? = _) 1) (by simp)
  simp at c0 c1
  have KB := hid (kb.trans hk1)
  have TB := hid (h.ext (kb.trans hk1))
  have NB : w.heap.size ∉ [ga, gb] := by simp; omega
  clear kb hk1
  go_wp2_with fail
  go_region_held3 (fun w' => w'.cell? ⟨w.heap.size, 0, none⟩ = some (.int .i64 1) ∧ w'.cell? ⟨w.heap.size, 1, none⟩ = some (.int .i64 arg))
    (first
      | exact ⟨c0, c1⟩
      | exact ⟨hk3.cell_some (hk2.cell_some c0 (by simp)) NB, hk3.cell_some (hk2.cell_some c1 (by simp)) NB⟩
      | exact ⟨hk2.cell_some c0 (by simp), hk2.cell_some c1 (by simp)⟩)
    (first
      | (go_at_call 30; refine (kof_1 _).mono ?_; rintro e w2 ⟨rfl, hk2⟩)
      | (go_at_call 43; refine (kof1_ok a b ga gb xs ys arg _ (TB.out.ext ((Kept.refl [] w1).drew.trans hk2)) HL.out hn h1 hx).mono ?_; rintro e w3 ⟨rfl, hk3, ht3⟩))
  all_goals (
    have HK := hid ((KB.out.drew.trans hk2).of_nil.trans hk3)
    have HT := hid ht3
    clear hk2 hk3 ht3
    go_wp2_with fail
    go_ret
    exact ⟨rfl, HK.out, HT.out⟩)

set_option maxRecDepth 100000 in
set_option maxHeartbeats 4000000 in
theorem kShard_1 (arg : Nat) (p d : Nat) (L : List Nat) (a b ga gb : Nat) (xs ys : List Int) (fr : Nat) (t : Int) (o : Option Addr) (c : Nat) (rows : List (List Nat)) (round : Nat) (w : World) (h : Two w a ga b gb xs ys) (hl : ys.length = xs.length) (hn : xs.length ≤ 256) (h1 : 1 ≤ xs.length)
    (ho : IsOut w L o rows) (hgb : gb ∈ L) (t1 : t ≤ xs.length) (t2 : (fr : Int) + rows.length ≤ t) (t3 : t ≤ fr + rows.length) (hw : Within rows xs.length) (hsz : ∀ i, i < rows.length → (row rows i).length ≤ 4611686018427387904) (hr : round ≤ 1000000) (hx : arg < xs.length) (hp : p ≤ 7) :
    Calls Tryz.prog 21 #[rq 1 arg p d, vec a, vec b, .agg #[.int .i64 fr, .int .i64 t, .slice o rows.length c], .int .i64 round] w fun e w' => e = .returned (.int .i64 0) ∧ Kept [gb] w w' ∧ Two w' a ga b gb xs (bfsShard round xs ys (edgesOf fr rows)) := by
  have HL := hid hl; clear hl
  have HW := hid hw; clear hw
  have HZ := hid hsz; clear hsz
  have hlt := h.lt
  have ff := field_1_1
  go_enter Tryz.func21, Tryz.ntmps21
  go_wp2_with fail
  have kb : Kept [] w ((w.alloc (.cells #[.int .i64 (1 : Nat), .int .i64 (arg : Nat), .int .i64 p, .int .i64 d] 45)).alloc (.cells #[.int .i64 fr, .int .i64 t, .slice o rows.length c] 43)) := ((Kept.refl _ _).alloc _).alloc _
  refine (kcheck_ok 1 arg p d a b ga gb xs ys _ (h.cur.kept kb (by simp) (by simp)) (h.acc.kept kb (by simp) (by simp)) h1 hn HL.out (.inl ⟨rfl, hx⟩) hp).mono ?_
  rintro e w1 ⟨rfl, hk1⟩
  have o0 : ((w.alloc (.cells #[.int .i64 (1 : Nat), .int .i64 (arg : Nat), .int .i64 p, .int .i64 d] 45)).alloc (.cells #[.int .i64 fr, .int .i64 t, .slice o rows.length c] 43)).heap[w.heap.size]? = some (.cells #[.int .i64 (1 : Nat), .int .i64 (arg : Nat), .int .i64 p, .int .i64 d] 45 (0, 0)) := obj_alloc_old (new_obj rfl) _
  have o1 : ((w.alloc (.cells #[.int .i64 (1 : Nat), .int .i64 (arg : Nat), .int .i64 p, .int .i64 d] 45)).alloc (.cells #[.int .i64 fr, .int .i64 t, .slice o rows.length c] 43)).heap[w.heap.size + 1]? = some (.cells #[.int .i64 fr, .int .i64 t, .slice o rows.length c] 43 (0, 0)) := new_obj (by simp)
  have c0 := hk1.cell_some (cell_of_obj o0 0) (by simp)
  have c1 := hk1.cell_some (cell_of_obj o0 1) (by simp)
  have s0 : w1.cell? ⟨w.heap.size + 1, 0, none⟩ = some (.int .i64 fr) := hk1.cell_some (cell_of_obj o1 0) (by simp)
  have s1 : w1.cell? ⟨w.heap.size + 1, 1, none⟩ = some (.int .i64 t) := hk1.cell_some (cell_of_obj o1 1) (by simp)
  have s2 : w1.cell? ⟨w.heap.size + 1, 2, none⟩ = some (.slice o rows.length c) := hk1.cell_some (cell_of_obj o1 2) (by simp)
  simp at c0 c1
  have KB := hid (kb.trans hk1)
  have TB := hid (h.ext (kb.trans hk1))
  have OB := hid (ho.kept (kb.trans hk1) (by simp))
  have NB : w.heap.size ∉ [gb] := by simp; omega
  have NB2 : w.heap.size + 1 ∉ [gb] := by simp; omega
  clear kb hk1 o0 o1
  go_wp2_with fail
  go_region_held3 (fun w' => w'.cell? ⟨w.heap.size, 0, none⟩ = some (.int .i64 1) ∧ w'.cell? ⟨w.heap.size + 1, 0, none⟩ = some (.int .i64 fr) ∧ w'.cell? ⟨w.heap.size + 1, 1, none⟩ = some (.int .i64 t) ∧ w'.cell? ⟨w.heap.size + 1, 2, none⟩ = some (.slice o rows.length c))
    (first
      | exact ⟨c0, s0, s1, s2⟩
      | exact ⟨hk3.cell_some (hk2.cell_some c0 (by simp)) NB, hk3.cell_some (hk2.cell_some s0 (by simp)) NB2, hk3.cell_some (hk2.cell_some s1 (by simp)) NB2, hk3.cell_some (hk2.cell_some s2 (by simp)) NB2⟩
      | exact ⟨hk2.cell_some c0 (by simp), hk2.cell_some s0 (by simp), hk2.cell_some s1 (by simp), hk2.cell_some s2 (by simp)⟩)
    (first
      | (go_at_call 30; refine (kof_1 _).mono ?_; rintro e w2 ⟨rfl, hk2⟩)
      | (go_at_call 45; refine (kof2_ok L a b ga gb xs ys fr t o c rows round _ (TB.out.ext ((Kept.refl [] w1).drew.trans hk2)) HL.out hn h1 (OB.out.kept ((Kept.refl [] w1).drew.trans hk2) (by simp)) hgb t1 t2 t3 HW.out HZ.out hr).mono ?_; rintro e w3 ⟨rfl, hk3, ht3⟩))
  all_goals (
    have HK := hid ((KB.out.drew.trans hk2).of_nil.trans hk3)
    have HT := hid ht3
    clear hk2 hk3 ht3
    go_wp2_with fail
    go_ret
    exact ⟨rfl, HK.out, HT.out⟩)

set_option maxRecDepth 100000 in
set_option maxHeartbeats 4000000 in
theorem kCommit_1 (a b ga gb : Nat) (xs ys : List Int) (arg : Nat) (p d round : Nat) (w : World) (h : Two w a ga b gb xs ys) (hl : ys.length = xs.length) (hn : xs.length ≤ 256) (h1 : 1 ≤ xs.length) (hx : arg < xs.length) (hp : p ≤ 7) :
    Calls Tryz.prog 22 #[rq 1 arg p d, vec a, vec b, .int .i64 round] w fun e w' => e = .returned (.tuple #[.bool (bfsDone xs ys), .int .i64 0]) ∧ Kept [ga, gb] w w' ∧ Two w' a ga b gb (tab (bfsCur xs ys) xs.length) (tab (fun _ => far) xs.length) := by
  have HL := hid hl; clear hl
  have hlt := h.lt
  have ff := field_1_2
  go_enter Tryz.func22, Tryz.ntmps22
  go_wp2_with fail
  have kb : Kept [] w (w.alloc (.cells #[.int .i64 (1 : Nat), .int .i64 (arg : Nat), .int .i64 p, .int .i64 d] 45)) := (Kept.refl _ _).alloc _
  refine (kcheck_ok 1 arg p d a b ga gb xs ys _ (h.cur.kept kb (by simp) (by simp)) (h.acc.kept kb (by simp) (by simp)) h1 hn HL.out (.inl ⟨rfl, hx⟩) hp).mono ?_
  rintro e w1 ⟨rfl, hk1⟩
  have c0 := hk1.cell_some (cell_of_obj (new_obj rfl : (w.alloc (.cells #[.int .i64 (1 : Nat), .int .i64 (arg : Nat), .int .i64 p, .int .i64 d] 45)).heap[w.heap.size]? = _) 0) (by simp)
  have c1 := hk1.cell_some (cell_of_obj (new_obj rfl : (w.alloc (.cells #[.int .i64 (1 : Nat), .int .i64 (arg : Nat), .int .i64 p, .int .i64 d] 45)).heap[w.heap.size]? = _) 1) (by simp)
  simp at c0 c1
  have KB := hid (kb.trans hk1)
  have TB := hid (h.ext (kb.trans hk1))
  have NB : w.heap.size ∉ [ga, gb] := by simp; omega
  clear kb hk1
  go_wp2_with fail
  go_region_held3 (fun w' => w'.cell? ⟨w.heap.size, 0, none⟩ = some (.int .i64 1) ∧ w'.cell? ⟨w.heap.size, 1, none⟩ = some (.int .i64 arg))
    (first
      | exact ⟨c0, c1⟩
      | exact ⟨hk3.cell_some (hk2.cell_some c0 (by simp)) NB, hk3.cell_some (hk2.cell_some c1 (by simp)) NB⟩
      | exact ⟨hk2.cell_some c0 (by simp), hk2.cell_some c1 (by simp)⟩)
    (first
      | (go_at_call 30; refine (kof_1 _).mono ?_; rintro e w2 ⟨rfl, hk2⟩)
      | (go_at_call 47; refine (kof3_ok a b ga gb xs ys arg round _ (TB.out.ext ((Kept.refl [] w1).drew.trans hk2)) HL.out hn h1 ).mono ?_; rintro e w3 ⟨rfl, hk3, ht3⟩))
  all_goals (
    have HK := hid ((KB.out.drew.trans hk2).of_nil.trans hk3)
    have HT := hid ht3
    clear hk2 hk3 ht3
    go_wp2_with fail
    go_ret2
    exact ⟨rfl, HK.out, HT.out⟩)
end Go.Proofs.YtedljgohmlilgaaGreat
/-
  The walks of kernels.Begin, Shard, Commit, for the kind 2. (printed by kerw.py)
-/
namespace Go.Proofs.YtedljgohmlilgaaGreat
open Go.RowKit
set_option linter.unusedVariables false
set_option linter.unusedSimpArgs false


set_option maxRecDepth 100000 in
set_option maxHeartbeats 1000000 in
theorem kof4_ok (a b ga gb : Nat) (xs ys : List Int) (arg : Nat) (w : World) (h : Two w a ga b gb xs ys) (hl : ys.length = xs.length) (hn : xs.length ≤ 256) (h1 : 1 ≤ xs.length) (hx : 1 ≤ arg) (hx2 : arg ≤ 64) :
    Calls Tryz.prog 49 #[vec a, vec b, .int .i64 arg] w fun e w' => e = .returned (.int .i64 0) ∧ Kept [ga, gb] w w' ∧ Two w' a ga b gb (tab (fun _ => one) xs.length) (tab (fun _ => 0) xs.length) := by
  have HL := hid hl; clear hl
  go_enter Tryz.func49, Tryz.ntmps49
  go_wp2_with fail
  refine (rankBegin_ok a b ga gb xs ys arg _ h HL.out hn h1 hx hx2).mono ?_
  rintro e w2 ⟨rfl, hk2, ht2⟩
  have K := hid hk2
  have T := hid ht2
  clear hk2 ht2
  go_wp2_with fail
  go_ret
  exact ⟨rfl, K.out, T.out⟩

set_option maxRecDepth 100000 in
set_option maxHeartbeats 1000000 in
theorem kof5_ok (L : List Nat) (a b ga gb : Nat) (xs ys : List Int) (fr : Nat) (t : Int) (o : Option Addr) (c : Nat) (rows : List (List Nat)) (round : Nat) (w : World) (h : Two w a ga b gb xs ys) (hl : ys.length = xs.length) (hn : xs.length ≤ 256) (h1 : 1 ≤ xs.length)
    (ho : IsOut w L o rows) (hgb : gb ∈ L) (t1 : t ≤ xs.length) (t2 : (fr : Int) + rows.length ≤ t) (t3 : t ≤ fr + rows.length) (hw : Within rows xs.length) (hsz : ∀ i, i < rows.length → (row rows i).length ≤ 1000000) (hx : Words xs) (hy : Words ys) :
    Calls Tryz.prog 51 #[vec a, vec b, .agg #[.int .i64 fr, .int .i64 t, .slice o rows.length c], .int .i64 round] w fun e w' => e = .returned (.int .i64 0) ∧ Kept [gb] w w' ∧ Two w' a ga b gb xs (rankShard xs ys (edgesOf fr rows)) := by
  have HL := hid hl; clear hl
  have HW := hid hw; clear hw
  have HZ := hid hsz; clear hsz
  go_enter Tryz.func51, Tryz.ntmps51
  go_wp2_with fail
  have kb : Kept [] w (w.alloc (.cells #[.int .i64 fr, .int .i64 t, .slice o rows.length c] 43)) := (Kept.refl _ _).alloc _
  have KB := hid kb
  refine (rankShard_ok L a b ga gb xs ys fr t o c rows round _ (h.ext kb) HL.out hn h1 (ho.kept kb (by simp)) hgb t1 t2 t3 HW.out HZ.out hx hy).mono ?_
  rintro e w2 ⟨rfl, hk2, ht2⟩
  have K := hid (kb.of_nil.trans hk2)
  have T := hid ht2
  clear hk2 ht2 kb
  go_wp2_with fail
  go_ret
  exact ⟨rfl, K.out, T.out⟩

set_option maxRecDepth 100000 in
set_option maxHeartbeats 1000000 in
theorem kof6_ok (a b ga gb : Nat) (xs ys : List Int) (arg round : Nat) (w : World) (h : Two w a ga b gb xs ys) (hl : ys.length = xs.length) (hn : xs.length ≤ 256) (h1 : 1 ≤ xs.length) (hy : Words ys) (hr : 1 ≤ arg) (hr1 : arg ≤ 1000000) (hr2 : round ≤ 1000000) :
    Calls Tryz.prog 53 #[vec a, vec b, .int .i64 arg, .int .i64 round] w fun e w' => e = .returned (.tuple #[.bool (rankDone arg round), .int .i64 0]) ∧ Kept [ga, gb] w w' ∧ Two w' a ga b gb (tab (fun i => ranked (nth ys i)) xs.length) (tab (fun _ => 0) xs.length) := by
  have HL := hid hl; clear hl
  go_enter Tryz.func53, Tryz.ntmps53
  go_wp2_with fail
  refine (rankCommit_ok a b ga gb xs ys arg round _ h HL.out hn h1 hy hr hr1 hr2).mono ?_
  rintro e w2 ⟨rfl, hk2, ht2⟩
  have K := hid (hk2 : Kept [ga, gb] w w2)
  have T := hid ht2
  clear hk2 ht2
  go_wp2_with fail
  go_ret2
  exact ⟨rfl, K.out, T.out⟩

set_option maxRecDepth 100000 in
set_option maxHeartbeats 2000000 in
theorem kBegin_2 (a b ga gb : Nat) (xs ys : List Int) (arg : Nat) (p d : Nat) (w : World) (h : Two w a ga b gb xs ys) (hl : ys.length = xs.length) (hn : xs.length ≤ 256) (h1 : 1 ≤ xs.length) (hx : 1 ≤ arg) (hx2 : arg ≤ 64) (hp : p ≤ 7) :
    Calls Tryz.prog 19 #[rq 2 arg p d, vec a, vec b] w fun e w' => e = .returned (.int .i64 0) ∧ Kept [ga, gb] w w' ∧ Two w' a ga b gb (tab (fun _ => one) xs.length) (tab (fun _ => 0) xs.length) := by
  have HL := hid hl; clear hl
  have hlt := h.lt
  have ff := field_2_0
  go_enter Tryz.func19, Tryz.ntmps19
  go_wp2_with fail
  have kb : Kept [] w (w.alloc (.cells #[.int .i64 (2 : Nat), .int .i64 (arg : Nat), .int .i64 p, .int .i64 d] 45)) := (Kept.refl _ _).alloc _
  refine (kcheck_ok 2 arg p d a b ga gb xs ys _ (h.cur.kept kb (by simp) (by simp)) (h.acc.kept kb (by simp) (by simp)) h1 hn HL.out (.inr (.inl ⟨rfl, hx, hx2⟩)) hp).mono ?_
  rintro e w1 ⟨rfl, hk1⟩
  have c0 := hk1.cell_some (cell_of_obj (new_obj rfl : (w.alloc (.cells #[.int .i64 (2 : Nat), .int .i64 (arg : Nat), .int .i64 p, .int .i64 d] 45)).heap[w.heap.size]? = _) 0) (by simp)
  have c1 := hk1.cell_some (cell_of_obj (new_obj rfl : (w.alloc (.cells #[.int .i64 (2 : Nat), .int .i64 (arg : Nat), .int .i64 p, .int .i64 d] 45)).heap[w.heap.size]? = _) 1) (by simp)
  simp at c0 c1
  have KB := hid (kb.trans hk1)
  have TB := hid (h.ext (kb.trans hk1))
  have NB : w.heap.size ∉ [ga, gb] := by simp; omega
  clear kb hk1
  go_wp2_with fail
  go_region_held3 (fun w' => w'.cell? ⟨w.heap.size, 0, none⟩ = some (.int .i64 2) ∧ w'.cell? ⟨w.heap.size, 1, none⟩ = some (.int .i64 arg))
    (first
      | exact ⟨c0, c1⟩
      | exact ⟨hk3.cell_some (hk2.cell_some c0 (by simp)) NB, hk3.cell_some (hk2.cell_some c1 (by simp)) NB⟩
      | exact ⟨hk2.cell_some c0 (by simp), hk2.cell_some c1 (by simp)⟩)
    (first
      | (go_at_call 30; refine (kof_2 _).mono ?_; rintro e w2 ⟨rfl, hk2⟩)
      | (go_at_call 49; refine (kof4_ok a b ga gb xs ys arg _ (TB.out.ext ((Kept.refl [] w1).drew.trans hk2)) HL.out hn h1 hx hx2).mono ?_; rintro e w3 ⟨rfl, hk3, ht3⟩))
  all_goals (
    have HK := hid ((KB.out.drew.trans hk2).of_nil.trans hk3)
    have HT := hid ht3
    clear hk2 hk3 ht3
    go_wp2_with fail
    go_ret
    exact ⟨rfl, HK.out, HT.out⟩)

set_option maxRecDepth 100000 in
set_option maxHeartbeats 4000000 in
theorem kShard_2 (arg : Nat) (p d : Nat) (L : List Nat) (a b ga gb : Nat) (xs ys : List Int) (fr : Nat) (t : Int) (o : Option Addr) (c : Nat) (rows : List (List Nat)) (round : Nat) (w : World) (h : Two w a ga b gb xs ys) (hl : ys.length = xs.length) (hn : xs.length ≤ 256) (h1 : 1 ≤ xs.length)
    (ho : IsOut w L o rows) (hgb : gb ∈ L) (t1 : t ≤ xs.length) (t2 : (fr : Int) + rows.length ≤ t) (t3 : t ≤ fr + rows.length) (hw : Within rows xs.length) (hsz : ∀ i, i < rows.length → (row rows i).length ≤ 1000000) (hwx : Words xs) (hwy : Words ys) (hx : 1 ≤ arg) (hx2 : arg ≤ 64) (hp : p ≤ 7) :
    Calls Tryz.prog 21 #[rq 2 arg p d, vec a, vec b, .agg #[.int .i64 fr, .int .i64 t, .slice o rows.length c], .int .i64 round] w fun e w' => e = .returned (.int .i64 0) ∧ Kept [gb] w w' ∧ Two w' a ga b gb xs (rankShard xs ys (edgesOf fr rows)) := by
  have HL := hid hl; clear hl
  have HW := hid hw; clear hw
  have HZ := hid hsz; clear hsz
  have hlt := h.lt
  have ff := field_2_1
  go_enter Tryz.func21, Tryz.ntmps21
  go_wp2_with fail
  have kb : Kept [] w ((w.alloc (.cells #[.int .i64 (2 : Nat), .int .i64 (arg : Nat), .int .i64 p, .int .i64 d] 45)).alloc (.cells #[.int .i64 fr, .int .i64 t, .slice o rows.length c] 43)) := ((Kept.refl _ _).alloc _).alloc _
  refine (kcheck_ok 2 arg p d a b ga gb xs ys _ (h.cur.kept kb (by simp) (by simp)) (h.acc.kept kb (by simp) (by simp)) h1 hn HL.out (.inr (.inl ⟨rfl, hx, hx2⟩)) hp).mono ?_
  rintro e w1 ⟨rfl, hk1⟩
  have o0 : ((w.alloc (.cells #[.int .i64 (2 : Nat), .int .i64 (arg : Nat), .int .i64 p, .int .i64 d] 45)).alloc (.cells #[.int .i64 fr, .int .i64 t, .slice o rows.length c] 43)).heap[w.heap.size]? = some (.cells #[.int .i64 (2 : Nat), .int .i64 (arg : Nat), .int .i64 p, .int .i64 d] 45 (0, 0)) := obj_alloc_old (new_obj rfl) _
  have o1 : ((w.alloc (.cells #[.int .i64 (2 : Nat), .int .i64 (arg : Nat), .int .i64 p, .int .i64 d] 45)).alloc (.cells #[.int .i64 fr, .int .i64 t, .slice o rows.length c] 43)).heap[w.heap.size + 1]? = some (.cells #[.int .i64 fr, .int .i64 t, .slice o rows.length c] 43 (0, 0)) := new_obj (by simp)
  have c0 := hk1.cell_some (cell_of_obj o0 0) (by simp)
  have c1 := hk1.cell_some (cell_of_obj o0 1) (by simp)
  have s0 : w1.cell? ⟨w.heap.size + 1, 0, none⟩ = some (.int .i64 fr) := hk1.cell_some (cell_of_obj o1 0) (by simp)
  have s1 : w1.cell? ⟨w.heap.size + 1, 1, none⟩ = some (.int .i64 t) := hk1.cell_some (cell_of_obj o1 1) (by simp)
  have s2 : w1.cell? ⟨w.heap.size + 1, 2, none⟩ = some (.slice o rows.length c) := hk1.cell_some (cell_of_obj o1 2) (by simp)
  simp at c0 c1
  have KB := hid (kb.trans hk1)
  have TB := hid (h.ext (kb.trans hk1))
  have OB := hid (ho.kept (kb.trans hk1) (by simp))
  have NB : w.heap.size ∉ [gb] := by simp; omega
  have NB2 : w.heap.size + 1 ∉ [gb] := by simp; omega
  clear kb hk1 o0 o1
  go_wp2_with fail
  go_region_held3 (fun w' => w'.cell? ⟨w.heap.size, 0, none⟩ = some (.int .i64 2) ∧ w'.cell? ⟨w.heap.size + 1, 0, none⟩ = some (.int .i64 fr) ∧ w'.cell? ⟨w.heap.size + 1, 1, none⟩ = some (.int .i64 t) ∧ w'.cell? ⟨w.heap.size + 1, 2, none⟩ = some (.slice o rows.length c))
    (first
      | exact ⟨c0, s0, s1, s2⟩
      | exact ⟨hk3.cell_some (hk2.cell_some c0 (by simp)) NB, hk3.cell_some (hk2.cell_some s0 (by simp)) NB2, hk3.cell_some (hk2.cell_some s1 (by simp)) NB2, hk3.cell_some (hk2.cell_some s2 (by simp)) NB2⟩
      | exact ⟨hk2.cell_some c0 (by simp), hk2.cell_some s0 (by simp), hk2.cell_some s1 (by simp), hk2.cell_some s2 (by simp)⟩)
    (first
      | (go_at_call 30; refine (kof_2 _).mono ?_; rintro e w2 ⟨rfl, hk2⟩)
      | (go_at_call 51; refine (kof5_ok L a b ga gb xs ys fr t o c rows round _ (TB.out.ext ((Kept.refl [] w1).drew.trans hk2)) HL.out hn h1 (OB.out.kept ((Kept.refl [] w1).drew.trans hk2) (by simp)) hgb t1 t2 t3 HW.out HZ.out hwx hwy).mono ?_; rintro e w3 ⟨rfl, hk3, ht3⟩))
  all_goals (
    have HK := hid ((KB.out.drew.trans hk2).of_nil.trans hk3)
    have HT := hid ht3
    clear hk2 hk3 ht3
    go_wp2_with fail
    go_ret
    exact ⟨rfl, HK.out, HT.out⟩)

set_option maxRecDepth 100000 in
set_option maxHeartbeats 4000000 in
theorem kCommit_2 (a b ga gb : Nat) (xs ys : List Int) (arg : Nat) (p d round : Nat) (w : World) (h : Two w a ga b gb xs ys) (hl : ys.length = xs.length) (hn : xs.length ≤ 256) (h1 : 1 ≤ xs.length) (hy : Words ys) (hx : 1 ≤ arg) (hx2 : arg ≤ 64) (hr2 : round ≤ 1000000) (hp : p ≤ 7) :
    Calls Tryz.prog 22 #[rq 2 arg p d, vec a, vec b, .int .i64 round] w fun e w' => e = .returned (.tuple #[.bool (rankDone arg round), .int .i64 0]) ∧ Kept [ga, gb] w w' ∧ Two w' a ga b gb (tab (fun i => ranked (nth ys i)) xs.length) (tab (fun _ => 0) xs.length) := by
  have HL := hid hl; clear hl
  have hlt := h.lt
  have ff := field_2_2
  go_enter Tryz.func22, Tryz.ntmps22
  go_wp2_with fail
  have kb : Kept [] w (w.alloc (.cells #[.int .i64 (2 : Nat), .int .i64 (arg : Nat), .int .i64 p, .int .i64 d] 45)) := (Kept.refl _ _).alloc _
  refine (kcheck_ok 2 arg p d a b ga gb xs ys _ (h.cur.kept kb (by simp) (by simp)) (h.acc.kept kb (by simp) (by simp)) h1 hn HL.out (.inr (.inl ⟨rfl, hx, hx2⟩)) hp).mono ?_
  rintro e w1 ⟨rfl, hk1⟩
  have c0 := hk1.cell_some (cell_of_obj (new_obj rfl : (w.alloc (.cells #[.int .i64 (2 : Nat), .int .i64 (arg : Nat), .int .i64 p, .int .i64 d] 45)).heap[w.heap.size]? = _) 0) (by simp)
  have c1 := hk1.cell_some (cell_of_obj (new_obj rfl : (w.alloc (.cells #[.int .i64 (2 : Nat), .int .i64 (arg : Nat), .int .i64 p, .int .i64 d] 45)).heap[w.heap.size]? = _) 1) (by simp)
  simp at c0 c1
  have KB := hid (kb.trans hk1)
  have TB := hid (h.ext (kb.trans hk1))
  have NB : w.heap.size ∉ [ga, gb] := by simp; omega
  clear kb hk1
  go_wp2_with fail
  go_region_held3 (fun w' => w'.cell? ⟨w.heap.size, 0, none⟩ = some (.int .i64 2) ∧ w'.cell? ⟨w.heap.size, 1, none⟩ = some (.int .i64 arg))
    (first
      | exact ⟨c0, c1⟩
      | exact ⟨hk3.cell_some (hk2.cell_some c0 (by simp)) NB, hk3.cell_some (hk2.cell_some c1 (by simp)) NB⟩
      | exact ⟨hk2.cell_some c0 (by simp), hk2.cell_some c1 (by simp)⟩)
    (first
      | (go_at_call 30; refine (kof_2 _).mono ?_; rintro e w2 ⟨rfl, hk2⟩)
      | (go_at_call 53; refine (kof6_ok a b ga gb xs ys arg round _ (TB.out.ext ((Kept.refl [] w1).drew.trans hk2)) HL.out hn h1 hy hx (by omega) hr2).mono ?_; rintro e w3 ⟨rfl, hk3, ht3⟩))
  all_goals (
    have HK := hid ((KB.out.drew.trans hk2).of_nil.trans hk3)
    have HT := hid ht3
    clear hk2 hk3 ht3
    go_wp2_with fail
    go_ret2
    exact ⟨rfl, HK.out, HT.out⟩)
end Go.Proofs.YtedljgohmlilgaaGreat
/-
  The walks of kernels.Begin, Shard, Commit, for the kind 3. (printed by kerw.py)
-/
namespace Go.Proofs.YtedljgohmlilgaaGreat
open Go.RowKit
set_option linter.unusedVariables false
set_option linter.unusedSimpArgs false


set_option maxRecDepth 100000 in
set_option maxHeartbeats 1000000 in
theorem kof7_ok (a b ga gb : Nat) (xs ys : List Int) (w : World) (h : Two w a ga b gb xs ys) (hl : ys.length = xs.length) (hn : xs.length ≤ 256) (h1 : 1 ≤ xs.length)  :
    Calls Tryz.prog 55 #[vec a, vec b, .int .i64 0] w fun e w' => e = .returned (.int .i64 0) ∧ Kept [ga, gb] w w' ∧ Two w' a ga b gb (tab (fun i => i) xs.length) (tab (fun i => i) xs.length) := by
  have HL := hid hl; clear hl
  go_enter Tryz.func55, Tryz.ntmps55
  go_wp2_with fail
  refine (labelsBegin_ok a b ga gb xs ys _ h HL.out hn h1).mono ?_
  rintro e w2 ⟨rfl, hk2, ht2⟩
  have K := hid hk2
  have T := hid ht2
  clear hk2 ht2
  go_wp2_with fail
  go_ret
  exact ⟨rfl, K.out, T.out⟩

set_option maxRecDepth 100000 in
set_option maxHeartbeats 1000000 in
theorem kof8_ok (L : List Nat) (a b ga gb : Nat) (xs ys : List Int) (fr : Nat) (t : Int) (o : Option Addr) (c : Nat) (rows : List (List Nat)) (round : Nat) (w : World) (h : Two w a ga b gb xs ys) (hl : ys.length = xs.length) (hn : xs.length ≤ 256) (h1 : 1 ≤ xs.length)
    (ho : IsOut w L o rows) (hgb : gb ∈ L) (t1 : t ≤ xs.length) (t2 : (fr : Int) + rows.length ≤ t) (t3 : t ≤ fr + rows.length) (hw : Within rows xs.length) (hsz : ∀ i, i < rows.length → (row rows i).length ≤ 1000000)  :
    Calls Tryz.prog 57 #[vec a, vec b, .agg #[.int .i64 fr, .int .i64 t, .slice o rows.length c], .int .i64 round] w fun e w' => e = .returned (.int .i64 0) ∧ Kept [gb] w w' ∧ Two w' a ga b gb xs (labelsShard xs ys (edgesOf fr rows)) := by
  have HL := hid hl; clear hl
  have HW := hid hw; clear hw
  have HZ := hid hsz; clear hsz
  go_enter Tryz.func57, Tryz.ntmps57
  go_wp2_with fail
  have kb : Kept [] w (w.alloc (.cells #[.int .i64 fr, .int .i64 t, .slice o rows.length c] 43)) := (Kept.refl _ _).alloc _
  have KB := hid kb
  refine (labelsShard_ok L a b ga gb xs ys fr t o c rows round _ (h.ext kb) HL.out hn h1 (ho.kept kb (by simp)) hgb t1 t2 t3 HW.out HZ.out ).mono ?_
  rintro e w2 ⟨rfl, hk2, ht2⟩
  have K := hid (kb.of_nil.trans hk2)
  have T := hid ht2
  clear hk2 ht2 kb
  go_wp2_with fail
  go_ret
  exact ⟨rfl, K.out, T.out⟩

set_option maxRecDepth 100000 in
set_option maxHeartbeats 1000000 in
theorem kof9_ok (a b ga gb : Nat) (xs ys : List Int) (arg round : Nat) (w : World) (h : Two w a ga b gb xs ys) (hl : ys.length = xs.length) (hn : xs.length ≤ 256) (h1 : 1 ≤ xs.length)  :
    Calls Tryz.prog 59 #[vec a, vec b, .int .i64 arg, .int .i64 round] w fun e w' => e = .returned (.tuple #[.bool (labelsDone xs ys), .int .i64 0]) ∧ Kept [ga, gb] w w' ∧ Two w' a ga b gb (tab (labelsCur xs ys) xs.length) ys := by
  have HL := hid hl; clear hl
  go_enter Tryz.func59, Tryz.ntmps59
  go_wp2_with fail
  refine (labelsCommit_ok a b ga gb xs ys arg round _ h HL.out hn h1 ).mono ?_
  rintro e w2 ⟨rfl, hk2, ht2⟩
  have K := hid (hk2.to (by simp) : Kept [ga, gb] w w2)
  have T := hid ht2
  clear hk2 ht2
  go_wp2_with fail
  go_ret2
  exact ⟨rfl, K.out, T.out⟩

set_option maxRecDepth 100000 in
set_option maxHeartbeats 2000000 in
theorem kBegin_3 (a b ga gb : Nat) (xs ys : List Int) (p d : Nat) (w : World) (h : Two w a ga b gb xs ys) (hl : ys.length = xs.length) (hn : xs.length ≤ 256) (h1 : 1 ≤ xs.length)  (hp : p ≤ 7) :
    Calls Tryz.prog 19 #[rq 3 0 p d, vec a, vec b] w fun e w' => e = .returned (.int .i64 0) ∧ Kept [ga, gb] w w' ∧ Two w' a ga b gb (tab (fun i => i) xs.length) (tab (fun i => i) xs.length) := by
  have HL := hid hl; clear hl
  have hlt := h.lt
  have ff := field_3_0
  go_enter Tryz.func19, Tryz.ntmps19
  go_wp2_with fail
  have kb : Kept [] w (w.alloc (.cells #[.int .i64 (3 : Nat), .int .i64 (0 : Nat), .int .i64 p, .int .i64 d] 45)) := (Kept.refl _ _).alloc _
  refine (kcheck_ok 3 0 p d a b ga gb xs ys _ (h.cur.kept kb (by simp) (by simp)) (h.acc.kept kb (by simp) (by simp)) h1 hn HL.out (.inr (.inr (.inl ⟨rfl, rfl⟩))) hp).mono ?_
  rintro e w1 ⟨rfl, hk1⟩
  have c0 := hk1.cell_some (cell_of_obj (new_obj rfl : (w.alloc (.cells #[.int .i64 (3 : Nat), .int .i64 (0 : Nat), .int .i64 p, .int .i64 d] 45)).heap[w.heap.size]? = _) 0) (by simp)
  have c1 := hk1.cell_some (cell_of_obj (new_obj rfl : (w.alloc (.cells #[.int .i64 (3 : Nat), .int .i64 (0 : Nat), .int .i64 p, .int .i64 d] 45)).heap[w.heap.size]? = _) 1) (by simp)
  simp at c0 c1
  have KB := hid (kb.trans hk1)
  have TB := hid (h.ext (kb.trans hk1))
  have NB : w.heap.size ∉ [ga, gb] := by simp; omega
  clear kb hk1
  go_wp2_with fail
  go_region_held3 (fun w' => w'.cell? ⟨w.heap.size, 0, none⟩ = some (.int .i64 3) ∧ w'.cell? ⟨w.heap.size, 1, none⟩ = some (.int .i64 0))
    (first
      | exact ⟨c0, c1⟩
      | exact ⟨hk3.cell_some (hk2.cell_some c0 (by simp)) NB, hk3.cell_some (hk2.cell_some c1 (by simp)) NB⟩
      | exact ⟨hk2.cell_some c0 (by simp), hk2.cell_some c1 (by simp)⟩)
    (first
      | (go_at_call 30; refine (kof_3 _).mono ?_; rintro e w2 ⟨rfl, hk2⟩)
      | (go_at_call 55; refine (kof7_ok a b ga gb xs ys _ (TB.out.ext ((Kept.refl [] w1).drew.trans hk2)) HL.out hn h1).mono ?_; rintro e w3 ⟨rfl, hk3, ht3⟩))
  all_goals (
    have HK := hid ((KB.out.drew.trans hk2).of_nil.trans hk3)
    have HT := hid ht3
    clear hk2 hk3 ht3
    go_wp2_with fail
    go_ret
    exact ⟨rfl, HK.out, HT.out⟩)

set_option maxRecDepth 100000 in
set_option maxHeartbeats 4000000 in
theorem kShard_3 (p d : Nat) (L : List Nat) (a b ga gb : Nat) (xs ys : List Int) (fr : Nat) (t : Int) (o : Option Addr) (c : Nat) (rows : List (List Nat)) (round : Nat) (w : World) (h : Two w a ga b gb xs ys) (hl : ys.length = xs.length) (hn : xs.length ≤ 256) (h1 : 1 ≤ xs.length)
    (ho : IsOut w L o rows) (hgb : gb ∈ L) (t1 : t ≤ xs.length) (t2 : (fr : Int) + rows.length ≤ t) (t3 : t ≤ fr + rows.length) (hw : Within rows xs.length) (hsz : ∀ i, i < rows.length → (row rows i).length ≤ 1000000)   (hp : p ≤ 7) :
    Calls Tryz.prog 21 #[rq 3 0 p d, vec a, vec b, .agg #[.int .i64 fr, .int .i64 t, .slice o rows.length c], .int .i64 round] w fun e w' => e = .returned (.int .i64 0) ∧ Kept [gb] w w' ∧ Two w' a ga b gb xs (labelsShard xs ys (edgesOf fr rows)) := by
  have HL := hid hl; clear hl
  have HW := hid hw; clear hw
  have HZ := hid hsz; clear hsz
  have hlt := h.lt
  have ff := field_3_1
  go_enter Tryz.func21, Tryz.ntmps21
  go_wp2_with fail
  have kb : Kept [] w ((w.alloc (.cells #[.int .i64 (3 : Nat), .int .i64 (0 : Nat), .int .i64 p, .int .i64 d] 45)).alloc (.cells #[.int .i64 fr, .int .i64 t, .slice o rows.length c] 43)) := ((Kept.refl _ _).alloc _).alloc _
  refine (kcheck_ok 3 0 p d a b ga gb xs ys _ (h.cur.kept kb (by simp) (by simp)) (h.acc.kept kb (by simp) (by simp)) h1 hn HL.out (.inr (.inr (.inl ⟨rfl, rfl⟩))) hp).mono ?_
  rintro e w1 ⟨rfl, hk1⟩
  have o0 : ((w.alloc (.cells #[.int .i64 (3 : Nat), .int .i64 (0 : Nat), .int .i64 p, .int .i64 d] 45)).alloc (.cells #[.int .i64 fr, .int .i64 t, .slice o rows.length c] 43)).heap[w.heap.size]? = some (.cells #[.int .i64 (3 : Nat), .int .i64 (0 : Nat), .int .i64 p, .int .i64 d] 45 (0, 0)) := obj_alloc_old (new_obj rfl) _
  have o1 : ((w.alloc (.cells #[.int .i64 (3 : Nat), .int .i64 (0 : Nat), .int .i64 p, .int .i64 d] 45)).alloc (.cells #[.int .i64 fr, .int .i64 t, .slice o rows.length c] 43)).heap[w.heap.size + 1]? = some (.cells #[.int .i64 fr, .int .i64 t, .slice o rows.length c] 43 (0, 0)) := new_obj (by simp)
  have c0 := hk1.cell_some (cell_of_obj o0 0) (by simp)
  have c1 := hk1.cell_some (cell_of_obj o0 1) (by simp)
  have s0 : w1.cell? ⟨w.heap.size + 1, 0, none⟩ = some (.int .i64 fr) := hk1.cell_some (cell_of_obj o1 0) (by simp)
  have s1 : w1.cell? ⟨w.heap.size + 1, 1, none⟩ = some (.int .i64 t) := hk1.cell_some (cell_of_obj o1 1) (by simp)
  have s2 : w1.cell? ⟨w.heap.size + 1, 2, none⟩ = some (.slice o rows.length c) := hk1.cell_some (cell_of_obj o1 2) (by simp)
  simp at c0 c1
  have KB := hid (kb.trans hk1)
  have TB := hid (h.ext (kb.trans hk1))
  have OB := hid (ho.kept (kb.trans hk1) (by simp))
  have NB : w.heap.size ∉ [gb] := by simp; omega
  have NB2 : w.heap.size + 1 ∉ [gb] := by simp; omega
  clear kb hk1 o0 o1
  go_wp2_with fail
  go_region_held3 (fun w' => w'.cell? ⟨w.heap.size, 0, none⟩ = some (.int .i64 3) ∧ w'.cell? ⟨w.heap.size + 1, 0, none⟩ = some (.int .i64 fr) ∧ w'.cell? ⟨w.heap.size + 1, 1, none⟩ = some (.int .i64 t) ∧ w'.cell? ⟨w.heap.size + 1, 2, none⟩ = some (.slice o rows.length c))
    (first
      | exact ⟨c0, s0, s1, s2⟩
      | exact ⟨hk3.cell_some (hk2.cell_some c0 (by simp)) NB, hk3.cell_some (hk2.cell_some s0 (by simp)) NB2, hk3.cell_some (hk2.cell_some s1 (by simp)) NB2, hk3.cell_some (hk2.cell_some s2 (by simp)) NB2⟩
      | exact ⟨hk2.cell_some c0 (by simp), hk2.cell_some s0 (by simp), hk2.cell_some s1 (by simp), hk2.cell_some s2 (by simp)⟩)
    (first
      | (go_at_call 30; refine (kof_3 _).mono ?_; rintro e w2 ⟨rfl, hk2⟩)
      | (go_at_call 57; refine (kof8_ok L a b ga gb xs ys fr t o c rows round _ (TB.out.ext ((Kept.refl [] w1).drew.trans hk2)) HL.out hn h1 (OB.out.kept ((Kept.refl [] w1).drew.trans hk2) (by simp)) hgb t1 t2 t3 HW.out HZ.out ).mono ?_; rintro e w3 ⟨rfl, hk3, ht3⟩))
  all_goals (
    have HK := hid ((KB.out.drew.trans hk2).of_nil.trans hk3)
    have HT := hid ht3
    clear hk2 hk3 ht3
    go_wp2_with fail
    go_ret
    exact ⟨rfl, HK.out, HT.out⟩)

set_option maxRecDepth 100000 in
set_option maxHeartbeats 4000000 in
theorem kCommit_3 (a b ga gb : Nat) (xs ys : List Int) (p d round : Nat) (w : World) (h : Two w a ga b gb xs ys) (hl : ys.length = xs.length) (hn : xs.length ≤ 256) (h1 : 1 ≤ xs.length)  (hp : p ≤ 7) :
    Calls Tryz.prog 22 #[rq 3 0 p d, vec a, vec b, .int .i64 round] w fun e w' => e = .returned (.tuple #[.bool (labelsDone xs ys), .int .i64 0]) ∧ Kept [ga, gb] w w' ∧ Two w' a ga b gb (tab (labelsCur xs ys) xs.length) ys := by
  have HL := hid hl; clear hl
  have hlt := h.lt
  have ff := field_3_2
  go_enter Tryz.func22, Tryz.ntmps22
  go_wp2_with fail
  have kb : Kept [] w (w.alloc (.cells #[.int .i64 (3 : Nat), .int .i64 (0 : Nat), .int .i64 p, .int .i64 d] 45)) := (Kept.refl _ _).alloc _
  refine (kcheck_ok 3 0 p d a b ga gb xs ys _ (h.cur.kept kb (by simp) (by simp)) (h.acc.kept kb (by simp) (by simp)) h1 hn HL.out (.inr (.inr (.inl ⟨rfl, rfl⟩))) hp).mono ?_
  rintro e w1 ⟨rfl, hk1⟩
  have c0 := hk1.cell_some (cell_of_obj (new_obj rfl : (w.alloc (.cells #[.int .i64 (3 : Nat), .int .i64 (0 : Nat), .int .i64 p, .int .i64 d] 45)).heap[w.heap.size]? = _) 0) (by simp)
  have c1 := hk1.cell_some (cell_of_obj (new_obj rfl : (w.alloc (.cells #[.int .i64 (3 : Nat), .int .i64 (0 : Nat), .int .i64 p, .int .i64 d] 45)).heap[w.heap.size]? = _) 1) (by simp)
  simp at c0 c1
  have KB := hid (kb.trans hk1)
  have TB := hid (h.ext (kb.trans hk1))
  have NB : w.heap.size ∉ [ga, gb] := by simp; omega
  clear kb hk1
  go_wp2_with fail
  go_region_held3 (fun w' => w'.cell? ⟨w.heap.size, 0, none⟩ = some (.int .i64 3) ∧ w'.cell? ⟨w.heap.size, 1, none⟩ = some (.int .i64 0))
    (first
      | exact ⟨c0, c1⟩
      | exact ⟨hk3.cell_some (hk2.cell_some c0 (by simp)) NB, hk3.cell_some (hk2.cell_some c1 (by simp)) NB⟩
      | exact ⟨hk2.cell_some c0 (by simp), hk2.cell_some c1 (by simp)⟩)
    (first
      | (go_at_call 30; refine (kof_3 _).mono ?_; rintro e w2 ⟨rfl, hk2⟩)
      | (go_at_call 59; refine (kof9_ok a b ga gb xs ys 0 round _ (TB.out.ext ((Kept.refl [] w1).drew.trans hk2)) HL.out hn h1 ).mono ?_; rintro e w3 ⟨rfl, hk3, ht3⟩))
  all_goals (
    have HK := hid ((KB.out.drew.trans hk2).of_nil.trans hk3)
    have HT := hid ht3
    clear hk2 hk3 ht3
    go_wp2_with fail
    go_ret2
    exact ⟨rfl, HK.out, HT.out⟩)
end Go.Proofs.YtedljgohmlilgaaGreat
/-
  The walks of kernels.Begin, Shard, Commit, for the kind 4. (printed by kerw.py)
-/
namespace Go.Proofs.YtedljgohmlilgaaGreat
open Go.RowKit
set_option linter.unusedVariables false
set_option linter.unusedSimpArgs false


set_option maxRecDepth 100000 in
set_option maxHeartbeats 1000000 in
theorem kof10_ok (a b ga gb : Nat) (xs ys : List Int) (arg : Nat) (w : World) (h : Two w a ga b gb xs ys) (hl : ys.length = xs.length) (hn : xs.length ≤ 256) (h1 : 1 ≤ xs.length) (hx2 : arg ≤ 4096) :
    Calls Tryz.prog 61 #[vec a, vec b, .int .i64 arg] w fun e w' => e = .returned (.int .i64 0) ∧ Kept [ga, gb] w w' ∧ Two w' a ga b gb (tab (fun _ => 1) xs.length) (tab (fun _ => 0) xs.length) := by
  have HL := hid hl; clear hl
  go_enter Tryz.func61, Tryz.ntmps61
  go_wp2_with fail
  refine (coresBegin_ok a b ga gb xs ys arg _ h HL.out hn h1 hx2).mono ?_
  rintro e w2 ⟨rfl, hk2, ht2⟩
  have K := hid hk2
  have T := hid ht2
  clear hk2 ht2
  go_wp2_with fail
  go_ret
  exact ⟨rfl, K.out, T.out⟩

set_option maxRecDepth 100000 in
set_option maxHeartbeats 1000000 in
theorem kof11_ok (L : List Nat) (a b ga gb : Nat) (xs ys : List Int) (fr : Nat) (t : Int) (o : Option Addr) (c : Nat) (rows : List (List Nat)) (round : Nat) (w : World) (h : Two w a ga b gb xs ys) (hl : ys.length = xs.length) (hn : xs.length ≤ 256) (h1 : 1 ≤ xs.length)
    (ho : IsOut w L o rows) (hgb : gb ∈ L) (t1 : t ≤ xs.length) (t2 : (fr : Int) + rows.length ≤ t) (t3 : t ≤ fr + rows.length) (hw : Within rows xs.length) (hsz : ∀ i, i < rows.length → (row rows i).length ≤ 1000000)  :
    Calls Tryz.prog 63 #[vec a, vec b, .agg #[.int .i64 fr, .int .i64 t, .slice o rows.length c], .int .i64 round] w fun e w' => e = .returned (.int .i64 0) ∧ Kept [gb] w w' ∧ Two w' a ga b gb xs (coresShard xs ys (edgesOf fr rows)) := by
  have HL := hid hl; clear hl
  have HW := hid hw; clear hw
  have HZ := hid hsz; clear hsz
  go_enter Tryz.func63, Tryz.ntmps63
  go_wp2_with fail
  have kb : Kept [] w (w.alloc (.cells #[.int .i64 fr, .int .i64 t, .slice o rows.length c] 43)) := (Kept.refl _ _).alloc _
  have KB := hid kb
  refine (coresShard_ok L a b ga gb xs ys fr t o c rows round _ (h.ext kb) HL.out hn h1 (ho.kept kb (by simp)) hgb t1 t2 t3 HW.out HZ.out ).mono ?_
  rintro e w2 ⟨rfl, hk2, ht2⟩
  have K := hid (kb.of_nil.trans hk2)
  have T := hid ht2
  clear hk2 ht2 kb
  go_wp2_with fail
  go_ret
  exact ⟨rfl, K.out, T.out⟩

set_option maxRecDepth 100000 in
set_option maxHeartbeats 1000000 in
theorem kof12_ok (a b ga gb : Nat) (xs ys : List Int) (arg round : Nat) (w : World) (h : Two w a ga b gb xs ys) (hl : ys.length = xs.length) (hn : xs.length ≤ 256) (h1 : 1 ≤ xs.length) (harg : arg ≤ 1000000) :
    Calls Tryz.prog 65 #[vec a, vec b, .int .i64 arg, .int .i64 round] w fun e w' => e = .returned (.tuple #[.bool (coresDone arg xs ys), .int .i64 0]) ∧ Kept [ga, gb] w w' ∧ Two w' a ga b gb (tab (coresCur arg xs ys) xs.length) (tab (fun _ => 0) xs.length) := by
  have HL := hid hl; clear hl
  go_enter Tryz.func65, Tryz.ntmps65
  go_wp2_with fail
  refine (coresCommit_ok a b ga gb xs ys arg round _ h HL.out hn h1 harg).mono ?_
  rintro e w2 ⟨rfl, hk2, ht2⟩
  have K := hid (hk2 : Kept [ga, gb] w w2)
  have T := hid ht2
  clear hk2 ht2
  go_wp2_with fail
  go_ret2
  exact ⟨rfl, K.out, T.out⟩

set_option maxRecDepth 100000 in
set_option maxHeartbeats 2000000 in
theorem kBegin_4 (a b ga gb : Nat) (xs ys : List Int) (arg : Nat) (p d : Nat) (w : World) (h : Two w a ga b gb xs ys) (hl : ys.length = xs.length) (hn : xs.length ≤ 256) (h1 : 1 ≤ xs.length) (hx2 : arg ≤ 4096) (hp : p ≤ 7) :
    Calls Tryz.prog 19 #[rq 4 arg p d, vec a, vec b] w fun e w' => e = .returned (.int .i64 0) ∧ Kept [ga, gb] w w' ∧ Two w' a ga b gb (tab (fun _ => 1) xs.length) (tab (fun _ => 0) xs.length) := by
  have HL := hid hl; clear hl
  have hlt := h.lt
  have ff := field_4_0
  go_enter Tryz.func19, Tryz.ntmps19
  go_wp2_with fail
  have kb : Kept [] w (w.alloc (.cells #[.int .i64 (4 : Nat), .int .i64 (arg : Nat), .int .i64 p, .int .i64 d] 45)) := (Kept.refl _ _).alloc _
  refine (kcheck_ok 4 arg p d a b ga gb xs ys _ (h.cur.kept kb (by simp) (by simp)) (h.acc.kept kb (by simp) (by simp)) h1 hn HL.out (.inr (.inr (.inr ⟨rfl, hx2⟩))) hp).mono ?_
  rintro e w1 ⟨rfl, hk1⟩
  have c0 := hk1.cell_some (cell_of_obj (new_obj rfl : (w.alloc (.cells #[.int .i64 (4 : Nat), .int .i64 (arg : Nat), .int .i64 p, .int .i64 d] 45)).heap[w.heap.size]? = _) 0) (by simp)
  have c1 := hk1.cell_some (cell_of_obj (new_obj rfl : (w.alloc (.cells #[.int .i64 (4 : Nat), .int .i64 (arg : Nat), .int .i64 p, .int .i64 d] 45)).heap[w.heap.size]? = _) 1) (by simp)
  simp at c0 c1
  have KB := hid (kb.trans hk1)
  have TB := hid (h.ext (kb.trans hk1))
  have NB : w.heap.size ∉ [ga, gb] := by simp; omega
  clear kb hk1
  go_wp2_with fail
  go_region_held3 (fun w' => w'.cell? ⟨w.heap.size, 0, none⟩ = some (.int .i64 4) ∧ w'.cell? ⟨w.heap.size, 1, none⟩ = some (.int .i64 arg))
    (first
      | exact ⟨c0, c1⟩
      | exact ⟨hk3.cell_some (hk2.cell_some c0 (by simp)) NB, hk3.cell_some (hk2.cell_some c1 (by simp)) NB⟩
      | exact ⟨hk2.cell_some c0 (by simp), hk2.cell_some c1 (by simp)⟩)
    (first
      | (go_at_call 30; refine (kof_4 _).mono ?_; rintro e w2 ⟨rfl, hk2⟩)
      | (go_at_call 61; refine (kof10_ok a b ga gb xs ys arg _ (TB.out.ext ((Kept.refl [] w1).drew.trans hk2)) HL.out hn h1 hx2).mono ?_; rintro e w3 ⟨rfl, hk3, ht3⟩))
  all_goals (
    have HK := hid ((KB.out.drew.trans hk2).of_nil.trans hk3)
    have HT := hid ht3
    clear hk2 hk3 ht3
    go_wp2_with fail
    go_ret
    exact ⟨rfl, HK.out, HT.out⟩)

set_option maxRecDepth 100000 in
set_option maxHeartbeats 4000000 in
theorem kShard_4 (arg : Nat) (p d : Nat) (L : List Nat) (a b ga gb : Nat) (xs ys : List Int) (fr : Nat) (t : Int) (o : Option Addr) (c : Nat) (rows : List (List Nat)) (round : Nat) (w : World) (h : Two w a ga b gb xs ys) (hl : ys.length = xs.length) (hn : xs.length ≤ 256) (h1 : 1 ≤ xs.length)
    (ho : IsOut w L o rows) (hgb : gb ∈ L) (t1 : t ≤ xs.length) (t2 : (fr : Int) + rows.length ≤ t) (t3 : t ≤ fr + rows.length) (hw : Within rows xs.length) (hsz : ∀ i, i < rows.length → (row rows i).length ≤ 1000000)  (hx2 : arg ≤ 4096) (hp : p ≤ 7) :
    Calls Tryz.prog 21 #[rq 4 arg p d, vec a, vec b, .agg #[.int .i64 fr, .int .i64 t, .slice o rows.length c], .int .i64 round] w fun e w' => e = .returned (.int .i64 0) ∧ Kept [gb] w w' ∧ Two w' a ga b gb xs (coresShard xs ys (edgesOf fr rows)) := by
  have HL := hid hl; clear hl
  have HW := hid hw; clear hw
  have HZ := hid hsz; clear hsz
  have hlt := h.lt
  have ff := field_4_1
  go_enter Tryz.func21, Tryz.ntmps21
  go_wp2_with fail
  have kb : Kept [] w ((w.alloc (.cells #[.int .i64 (4 : Nat), .int .i64 (arg : Nat), .int .i64 p, .int .i64 d] 45)).alloc (.cells #[.int .i64 fr, .int .i64 t, .slice o rows.length c] 43)) := ((Kept.refl _ _).alloc _).alloc _
  refine (kcheck_ok 4 arg p d a b ga gb xs ys _ (h.cur.kept kb (by simp) (by simp)) (h.acc.kept kb (by simp) (by simp)) h1 hn HL.out (.inr (.inr (.inr ⟨rfl, hx2⟩))) hp).mono ?_
  rintro e w1 ⟨rfl, hk1⟩
  have o0 : ((w.alloc (.cells #[.int .i64 (4 : Nat), .int .i64 (arg : Nat), .int .i64 p, .int .i64 d] 45)).alloc (.cells #[.int .i64 fr, .int .i64 t, .slice o rows.length c] 43)).heap[w.heap.size]? = some (.cells #[.int .i64 (4 : Nat), .int .i64 (arg : Nat), .int .i64 p, .int .i64 d] 45 (0, 0)) := obj_alloc_old (new_obj rfl) _
  have o1 : ((w.alloc (.cells #[.int .i64 (4 : Nat), .int .i64 (arg : Nat), .int .i64 p, .int .i64 d] 45)).alloc (.cells #[.int .i64 fr, .int .i64 t, .slice o rows.length c] 43)).heap[w.heap.size + 1]? = some (.cells #[.int .i64 fr, .int .i64 t, .slice o rows.length c] 43 (0, 0)) := new_obj (by simp)
  have c0 := hk1.cell_some (cell_of_obj o0 0) (by simp)
  have c1 := hk1.cell_some (cell_of_obj o0 1) (by simp)
  have s0 : w1.cell? ⟨w.heap.size + 1, 0, none⟩ = some (.int .i64 fr) := hk1.cell_some (cell_of_obj o1 0) (by simp)
  have s1 : w1.cell? ⟨w.heap.size + 1, 1, none⟩ = some (.int .i64 t) := hk1.cell_some (cell_of_obj o1 1) (by simp)
  have s2 : w1.cell? ⟨w.heap.size + 1, 2, none⟩ = some (.slice o rows.length c) := hk1.cell_some (cell_of_obj o1 2) (by simp)
  simp at c0 c1
  have KB := hid (kb.trans hk1)
  have TB := hid (h.ext (kb.trans hk1))
  have OB := hid (ho.kept (kb.trans hk1) (by simp))
  have NB : w.heap.size ∉ [gb] := by simp; omega
  have NB2 : w.heap.size + 1 ∉ [gb] := by simp; omega
  clear kb hk1 o0 o1
  go_wp2_with fail
  go_region_held3 (fun w' => w'.cell? ⟨w.heap.size, 0, none⟩ = some (.int .i64 4) ∧ w'.cell? ⟨w.heap.size + 1, 0, none⟩ = some (.int .i64 fr) ∧ w'.cell? ⟨w.heap.size + 1, 1, none⟩ = some (.int .i64 t) ∧ w'.cell? ⟨w.heap.size + 1, 2, none⟩ = some (.slice o rows.length c))
    (first
      | exact ⟨c0, s0, s1, s2⟩
      | exact ⟨hk3.cell_some (hk2.cell_some c0 (by simp)) NB, hk3.cell_some (hk2.cell_some s0 (by simp)) NB2, hk3.cell_some (hk2.cell_some s1 (by simp)) NB2, hk3.cell_some (hk2.cell_some s2 (by simp)) NB2⟩
      | exact ⟨hk2.cell_some c0 (by simp), hk2.cell_some s0 (by simp), hk2.cell_some s1 (by simp), hk2.cell_some s2 (by simp)⟩)
    (first
      | (go_at_call 30; refine (kof_4 _).mono ?_; rintro e w2 ⟨rfl, hk2⟩)
      | (go_at_call 63; refine (kof11_ok L a b ga gb xs ys fr t o c rows round _ (TB.out.ext ((Kept.refl [] w1).drew.trans hk2)) HL.out hn h1 (OB.out.kept ((Kept.refl [] w1).drew.trans hk2) (by simp)) hgb t1 t2 t3 HW.out HZ.out ).mono ?_; rintro e w3 ⟨rfl, hk3, ht3⟩))
  all_goals (
    have HK := hid ((KB.out.drew.trans hk2).of_nil.trans hk3)
    have HT := hid ht3
    clear hk2 hk3 ht3
    go_wp2_with fail
    go_ret
    exact ⟨rfl, HK.out, HT.out⟩)

set_option maxRecDepth 100000 in
set_option maxHeartbeats 4000000 in
theorem kCommit_4 (a b ga gb : Nat) (xs ys : List Int) (arg : Nat) (p d round : Nat) (w : World) (h : Two w a ga b gb xs ys) (hl : ys.length = xs.length) (hn : xs.length ≤ 256) (h1 : 1 ≤ xs.length) (hx2 : arg ≤ 4096) (hp : p ≤ 7) :
    Calls Tryz.prog 22 #[rq 4 arg p d, vec a, vec b, .int .i64 round] w fun e w' => e = .returned (.tuple #[.bool (coresDone arg xs ys), .int .i64 0]) ∧ Kept [ga, gb] w w' ∧ Two w' a ga b gb (tab (coresCur arg xs ys) xs.length) (tab (fun _ => 0) xs.length) := by
  have HL := hid hl; clear hl
  have hlt := h.lt
  have ff := field_4_2
  go_enter Tryz.func22, Tryz.ntmps22
  go_wp2_with fail
  have kb : Kept [] w (w.alloc (.cells #[.int .i64 (4 : Nat), .int .i64 (arg : Nat), .int .i64 p, .int .i64 d] 45)) := (Kept.refl _ _).alloc _
  refine (kcheck_ok 4 arg p d a b ga gb xs ys _ (h.cur.kept kb (by simp) (by simp)) (h.acc.kept kb (by simp) (by simp)) h1 hn HL.out (.inr (.inr (.inr ⟨rfl, hx2⟩))) hp).mono ?_
  rintro e w1 ⟨rfl, hk1⟩
  have c0 := hk1.cell_some (cell_of_obj (new_obj rfl : (w.alloc (.cells #[.int .i64 (4 : Nat), .int .i64 (arg : Nat), .int .i64 p, .int .i64 d] 45)).heap[w.heap.size]? = _) 0) (by simp)
  have c1 := hk1.cell_some (cell_of_obj (new_obj rfl : (w.alloc (.cells #[.int .i64 (4 : Nat), .int .i64 (arg : Nat), .int .i64 p, .int .i64 d] 45)).heap[w.heap.size]? = _) 1) (by simp)
  simp at c0 c1
  have KB := hid (kb.trans hk1)
  have TB := hid (h.ext (kb.trans hk1))
  have NB : w.heap.size ∉ [ga, gb] := by simp; omega
  clear kb hk1
  go_wp2_with fail
  go_region_held3 (fun w' => w'.cell? ⟨w.heap.size, 0, none⟩ = some (.int .i64 4) ∧ w'.cell? ⟨w.heap.size, 1, none⟩ = some (.int .i64 arg))
    (first
      | exact ⟨c0, c1⟩
      | exact ⟨hk3.cell_some (hk2.cell_some c0 (by simp)) NB, hk3.cell_some (hk2.cell_some c1 (by simp)) NB⟩
      | exact ⟨hk2.cell_some c0 (by simp), hk2.cell_some c1 (by simp)⟩)
    (first
      | (go_at_call 30; refine (kof_4 _).mono ?_; rintro e w2 ⟨rfl, hk2⟩)
      | (go_at_call 65; refine (kof12_ok a b ga gb xs ys arg round _ (TB.out.ext ((Kept.refl [] w1).drew.trans hk2)) HL.out hn h1 (by omega)).mono ?_; rintro e w3 ⟨rfl, hk3, ht3⟩))
  all_goals (
    have HK := hid ((KB.out.drew.trans hk2).of_nil.trans hk3)
    have HT := hid ht3
    clear hk2 hk3 ht3
    go_wp2_with fail
    go_ret2
    exact ⟨rfl, HK.out, HT.out⟩)
end Go.Proofs.YtedljgohmlilgaaGreat
