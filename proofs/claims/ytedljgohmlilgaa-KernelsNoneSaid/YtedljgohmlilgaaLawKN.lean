/-
  The walk of carousellaw21.KernelsNone.
-/
import Derived.Test.YtedljgohmlilgaaKerE
namespace Go.Proofs.Ytedljgohmlilgaa
open Go.RowKit
set_option linter.unusedVariables false
set_option linter.unusedSimpArgs false

set_option maxHeartbeats 400000 in
theorem Check_nil1 (a : Nat) (w : World) : Calls Try.prog 53 #[vec a, .nilIface] w fun e w' => e = .returned (.int .i64 1) ∧ w = w' := by
  go_enter Try.func53, Try.ntmps53
  go_wp2
  go_ret
  exact ⟨rfl, rfl⟩
set_option maxHeartbeats 400000 in
theorem Check_nil2 (b : Nat) (w : World) : Calls Try.prog 53 #[.nilIface, vec b] w fun e w' => e = .returned (.int .i64 1) ∧ w = w' := by
  go_enter Try.func53, Try.ntmps53
  go_wp2
  go_ret
  exact ⟨rfl, rfl⟩
/-- Whatever is asked for, as a value. -/
abbrev rqi (k g p d : Int) : Value := .agg #[.int .i64 k, .int .i64 g, .int .i64 p, .int .i64 d]
set_option maxRecDepth 100000 in
set_option maxHeartbeats 1000000 in
theorem kcheck_nil1 (k g p d : Int) (a : Nat) (w : World) : Calls Try.prog 74 #[rqi k g p d, vec a, .nilIface] w fun e w' => e = .returned (.int .i64 1) ∧ Kept [] w w' := by
  go_enter Try.func74, Try.ntmps74
  go_wp2_with fail
  refine (Check_nil1 a _).mono ?_
  rintro e w1 ⟨rfl, hw⟩
  have K := hid (show Kept [] w w1 by rw [← hw]; exact (Kept.refl _ _).alloc _)
  clear hw
  go_wp2_with fail
  go_ret
  exact ⟨rfl, K.out⟩
set_option maxRecDepth 100000 in
set_option maxHeartbeats 1000000 in
theorem kcheck_nil2 (k g p d : Int) (b : Nat) (w : World) : Calls Try.prog 74 #[rqi k g p d, .nilIface, vec b] w fun e w' => e = .returned (.int .i64 1) ∧ Kept [] w w' := by
  go_enter Try.func74, Try.ntmps74
  go_wp2_with fail
  refine (Check_nil2 b _).mono ?_
  rintro e w1 ⟨rfl, hw⟩
  have K := hid (show Kept [] w w1 by rw [← hw]; exact (Kept.refl _ _).alloc _)
  clear hw
  go_wp2_with fail
  go_ret
  exact ⟨rfl, K.out⟩
set_option maxRecDepth 100000 in
set_option maxHeartbeats 2000000 in
theorem kcheck_no (g p d a b ga gb : Nat) (xs ys : List Int) (w : World) (ha : Vec w a ga xs) (hb : Vec w b gb ys) (h1 : 1 ≤ xs.length) (h2 : xs.length ≤ 256) (h3 : ys.length = xs.length) (h : xs.length ≤ g) (hp : p ≤ 7) :
    Calls Try.prog 74 #[rq 1 g p d, vec a, vec b] w fun e w' => e = .returned (.int .i64 2) ∧ Kept [] w w' := by
  have mL := m_Len
  have H3 := hid h3; clear h3
  go_enter Try.func74, Try.ntmps74
  go_wp2_with fail
  have kb : Kept [] w (w.alloc (.cells #[.int .i64 (1 : Nat), .int .i64 g, .int .i64 p, .int .i64 d] 76)) := (Kept.refl _ _).alloc _
  refine (Check_ok a b ga gb xs ys _ (ha.kept kb (by simp) (by simp)) (hb.kept kb (by simp) (by simp)) h1 h2 H3.out).mono ?_
  rintro e w1 ⟨rfl, hw⟩
  have ob : w1.heap[w.heap.size]? = some (.cells #[.int .i64 (1 : Nat), .int .i64 g, .int .i64 p, .int .i64 d] 76 (0, 0)) := by rw [← hw]; exact new_obj rfl
  rw [hw] at kb
  clear hw
  have c0 : w1.cell? ⟨w.heap.size, 0, none⟩ = some (.int .i64 (1 : Nat)) := cell_of_obj ob 0
  have c1 : w1.cell? ⟨w.heap.size, 1, none⟩ = some (.int .i64 g) := cell_of_obj ob 1
  have c2 : w1.cell? ⟨w.heap.size, 2, none⟩ = some (.int .i64 p) := cell_of_obj ob 2
  have c3 : w1.cell? ⟨w.heap.size, 3, none⟩ = some (.int .i64 d) := cell_of_obj ob 3
  have KB := hid kb
  have va := hid (ha.kept kb (by simp) (by simp))
  clear kb ob
  go_wp2_with fail
  go_region_held3 (fun w' => w'.cell? ⟨w.heap.size, 0, none⟩ = some (.int .i64 (1 : Nat)) ∧ w'.cell? ⟨w.heap.size, 1, none⟩ = some (.int .i64 g) ∧ w'.cell? ⟨w.heap.size, 2, none⟩ = some (.int .i64 p) ∧ w'.cell? ⟨w.heap.size, 3, none⟩ = some (.int .i64 d))
    (first
      | exact ⟨c0, c1, c2, c3⟩
      | exact ⟨hk3.cell_some c0 (by simp), hk3.cell_some c1 (by simp), hk3.cell_some c2 (by simp), hk3.cell_some c3 (by simp)⟩)
    (first
      | (go_at_call 61; refine (Len_ok a ga xs _ (va.out.kept ((Kept.refl [] w1).drew) (by simp) (by simp))).mono ?_; rintro e w2 ⟨rfl, rfl⟩)
      | (go_at_call 76; refine (tCheck_no g p d xs.length _ h hp h1 h2).mono ?_; rintro e w3 ⟨rfl, hk3⟩))
  all_goals (
    have HK := hid (KB.out.drew.trans hk3)
    clear hk3
    go_wp2_with fail
    go_ret
    exact ⟨rfl, HK.out⟩)
set_option maxRecDepth 100000 in
set_option maxHeartbeats 1000000 in
theorem kCommit_nil (k g p d : Int) (a : Nat) (w : World) :
    Calls Try.prog 41 #[rqi k g p d, vec a, .nilIface, .int .i64 0] w fun e w' => e = .returned (.tuple #[.bool false, .int .i64 1]) ∧ Kept [] w w' := by
  go_enter Try.func41, Try.ntmps41
  go_wp2_with fail
  have kb : Kept [] w (w.alloc (.cells #[.int .i64 k, .int .i64 g, .int .i64 p, .int .i64 d] 76)) := (Kept.refl _ _).alloc _
  refine (kcheck_nil1 k g p d a _).mono ?_
  rintro e w1 ⟨rfl, hk1⟩
  have K := hid (kb.trans hk1)
  clear hk1 kb
  go_wp2_with fail
  go_ret2
  exact ⟨rfl, K.out⟩
set_option maxRecDepth 100000 in
set_option maxHeartbeats 1000000 in
theorem kBegin_nil (k g p d : Int) (b : Nat) (w : World) :
    Calls Try.prog 42 #[rqi k g p d, .nilIface, vec b] w fun e w' => e = .returned (.int .i64 1) ∧ Kept [] w w' := by
  go_enter Try.func42, Try.ntmps42
  go_wp2_with fail
  have kb : Kept [] w (w.alloc (.cells #[.int .i64 k, .int .i64 g, .int .i64 p, .int .i64 d] 76)) := (Kept.refl _ _).alloc _
  refine (kcheck_nil2 k g p d b _).mono ?_
  rintro e w1 ⟨rfl, hk1⟩
  have K := hid (kb.trans hk1)
  clear hk1 kb
  go_wp2_with fail
  go_ret
  exact ⟨rfl, K.out⟩
set_option maxRecDepth 100000 in
set_option maxHeartbeats 1000000 in
theorem kShard_nil (k g p d : Int) (a : Nat) (w : World) :
    Calls Try.prog 43 #[rqi k g p d, vec a, .nilIface, .agg #[.int .i64 0, .int .i64 0, .slice none 0 0], .int .i64 0] w fun e w' => e = .returned (.int .i64 1) ∧ Kept [] w w' := by
  go_enter Try.func43, Try.ntmps43
  go_wp2_with fail
  have kb : Kept [] w ((w.alloc (.cells #[.int .i64 k, .int .i64 g, .int .i64 p, .int .i64 d] 76)).alloc (.cells #[.int .i64 0, .int .i64 0, .slice none 0 0] 45)) := ((Kept.refl _ _).alloc _).alloc _
  refine (kcheck_nil1 k g p d a _).mono ?_
  rintro e w1 ⟨rfl, hk1⟩
  have K := hid (kb.trans hk1)
  clear hk1 kb
  go_wp2_with fail
  go_ret
  exact ⟨rfl, K.out⟩
set_option maxRecDepth 100000 in
set_option maxHeartbeats 1000000 in
theorem kCommit_no (g p d a b ga gb : Nat) (xs ys : List Int) (w : World) (ha : Vec w a ga xs) (hb : Vec w b gb ys) (h1 : 1 ≤ xs.length) (h2 : xs.length ≤ 256) (h3 : ys.length = xs.length) (h : xs.length ≤ g) (hp : p ≤ 7) :
    Calls Try.prog 41 #[rq 1 g p d, vec a, vec b, .int .i64 0] w fun e w' => e = .returned (.tuple #[.bool false, .int .i64 2]) ∧ Kept [] w w' := by
  have H3 := hid h3; clear h3
  go_enter Try.func41, Try.ntmps41
  go_wp2_with fail
  have kb : Kept [] w (w.alloc (.cells #[.int .i64 (1 : Nat), .int .i64 g, .int .i64 p, .int .i64 d] 76)) := (Kept.refl _ _).alloc _
  refine (kcheck_no g p d a b ga gb xs ys _ (ha.kept kb (by simp) (by simp)) (hb.kept kb (by simp) (by simp)) h1 h2 H3.out h hp).mono ?_
  rintro e w1 ⟨rfl, hk1⟩
  have K := hid (kb.trans hk1)
  clear hk1 kb
  go_wp2_with fail
  go_ret2
  exact ⟨rfl, K.out⟩
set_option maxRecDepth 100000 in
set_option maxHeartbeats 1000000 in
theorem kBegin_no (g p d a b ga gb : Nat) (xs ys : List Int) (w : World) (ha : Vec w a ga xs) (hb : Vec w b gb ys) (h1 : 1 ≤ xs.length) (h2 : xs.length ≤ 256) (h3 : ys.length = xs.length) (h : xs.length ≤ g) (hp : p ≤ 7) :
    Calls Try.prog 42 #[rq 1 g p d, vec a, vec b] w fun e w' => e = .returned (.int .i64 2) ∧ Kept [] w w' := by
  have H3 := hid h3; clear h3
  go_enter Try.func42, Try.ntmps42
  go_wp2_with fail
  have kb : Kept [] w (w.alloc (.cells #[.int .i64 (1 : Nat), .int .i64 g, .int .i64 p, .int .i64 d] 76)) := (Kept.refl _ _).alloc _
  refine (kcheck_no g p d a b ga gb xs ys _ (ha.kept kb (by simp) (by simp)) (hb.kept kb (by simp) (by simp)) h1 h2 H3.out h hp).mono ?_
  rintro e w1 ⟨rfl, hk1⟩
  have K := hid (kb.trans hk1)
  clear hk1 kb
  go_wp2_with fail
  go_ret
  exact ⟨rfl, K.out⟩
set_option maxRecDepth 100000 in
set_option maxHeartbeats 1000000 in
theorem kShard_no (g p d a b ga gb : Nat) (xs ys : List Int) (w : World) (ha : Vec w a ga xs) (hb : Vec w b gb ys) (h1 : 1 ≤ xs.length) (h2 : xs.length ≤ 256) (h3 : ys.length = xs.length) (h : xs.length ≤ g) (hp : p ≤ 7) :
    Calls Try.prog 43 #[rq 1 g p d, vec a, vec b, .agg #[.int .i64 0, .int .i64 0, .slice none 0 0], .int .i64 0] w fun e w' => e = .returned (.int .i64 2) ∧ Kept [] w w' := by
  have H3 := hid h3; clear h3
  go_enter Try.func43, Try.ntmps43
  go_wp2_with fail
  have kb : Kept [] w ((w.alloc (.cells #[.int .i64 (1 : Nat), .int .i64 g, .int .i64 p, .int .i64 d] 76)).alloc (.cells #[.int .i64 0, .int .i64 0, .slice none 0 0] 45)) := ((Kept.refl _ _).alloc _).alloc _
  refine (kcheck_no g p d a b ga gb xs ys _ (ha.kept kb (by simp) (by simp)) (hb.kept kb (by simp) (by simp)) h1 h2 H3.out h hp).mono ?_
  rintro e w1 ⟨rfl, hk1⟩
  have K := hid (kb.trans hk1)
  clear hk1 kb
  go_wp2_with fail
  go_ret
  exact ⟨rfl, K.out⟩

set_option maxRecDepth 100000 in
set_option maxHeartbeats 4000000 in
theorem KernelsNone_ok (k g p d : Int) (w : World) :
    Calls Try.prog 10 #[.agg #[.int .i64 k, .int .i64 g, .int .i64 p, .int .i64 d]] w fun e w' => e = .returned (.bool true) ∧ Kept [] w w' := by
  go_enter Try.func10, Try.ntmps10
  go_wp2_with fail
  have kb : Kept [] w (w.alloc (.cells #[.int .i64 k, .int .i64 g, .int .i64 p, .int .i64 d] 76)) := (Kept.refl _ _).alloc _
  have ob := (new_obj rfl : (w.alloc (.cells #[.int .i64 k, .int .i64 g, .int .i64 p, .int .i64 d] 76)).heap[w.heap.size]? = some (.cells #[.int .i64 k, .int .i64 g, .int .i64 p, .int .i64 d] 76 (0, 0)))
  have OB := hid ob
  have KB := hid kb
  clear ob kb
  refine (Fresh_ok 3 _ (by decide)).mono ?_
  rintro e w2 ⟨rfl, hk2, ht2, hz2⟩
  generalize w.alloc (.cells #[.int .i64 k, .int .i64 g, .int .i64 p, .int .i64 d] 76) = w1 at *
  obtain ⟨ga, hga⟩ : ∃ ga, ga = w1.heap.size := ⟨_, rfl⟩
  obtain ⟨pa, hpa⟩ : ∃ pa, pa = w1.heap.size + 1 := ⟨_, rfl⟩
  obtain ⟨pb, hpb⟩ : ∃ pb, pb = w1.heap.size + 3 := ⟨_, rfl⟩
  obtain ⟨gb, hgb⟩ : ∃ gb, gb = w1.heap.size + 2 := ⟨_, rfl⟩
  rw [← hpa, ← hpb, ← hgb, ← hga] at ht2
  rw [← hpa, ← hpb]
  have T2 := hid ht2
  have K2 := hid (KB.out.trans hk2)
  have LC := hid (fun (w' : World) (kk : Kept [] w2 w') => (show w'.cell? ⟨w.heap.size, 0, none⟩ = some (.int .i64 k) ∧ w'.cell? ⟨w.heap.size, 1, none⟩ = some (.int .i64 g) ∧ w'.cell? ⟨w.heap.size, 2, none⟩ = some (.int .i64 p) ∧ w'.cell? ⟨w.heap.size, 3, none⟩ = some (.int .i64 d) from by
    have ho := (hk2.trans kk).obj OB.out (by simp)
    exact ⟨by rw [cell_of_obj ho]; rfl, by rw [cell_of_obj ho]; rfl, by rw [cell_of_obj ho]; rfl, by rw [cell_of_obj ho]; rfl⟩))
  clear hk2 ht2 hz2 hga hpa hpb hgb
  obtain ⟨b0, b1, b2, b3⟩ := LC.out _ (Kept.refl _ _)
  go_wp2_with fail
  refine (kCommit_nil k g p d pa _).mono ?_
  rintro e w3 ⟨rfl, hk3⟩
  have K3 := hid hk3
  clear hk3 b0 b1 b2 b3
  obtain ⟨b0, b1, b2, b3⟩ := LC.out _ K3.out
  go_wp2_with fail
  refine (kBegin_nil k g p d pb _).mono ?_
  rintro e w4 ⟨rfl, hk4⟩
  have K4 := hid (K3.out.trans hk4)
  clear hk4 b0 b1 b2 b3
  obtain ⟨b0, b1, b2, b3⟩ := LC.out _ K4.out
  go_wp2_with fail
  refine (kShard_nil k g p d pa _).mono ?_
  rintro e w5 ⟨rfl, hk5⟩
  have K5 := hid (K4.out.trans hk5)
  have O5 := hid (new_obj rfl : (w5.alloc (.cells #[.int .i64 1, .int .i64 3, .int .i64 0, .int .i64 0] 76)).heap[w5.heap.size]? = some (.cells #[.int .i64 1, .int .i64 3, .int .i64 0, .int .i64 0] 76 (0, 0)))
  clear hk5 b0 b1 b2 b3
  go_wp2_with fail
  obtain ⟨w6, hw6⟩ : ∃ w6, w6 = w5.alloc (.cells #[.int .i64 1, .int .i64 3, .int .i64 0, .int .i64 0] 76) := ⟨_, rfl⟩
  have K6 := hid (show Kept [] w2 w6 by rw [hw6]; exact K5.out.alloc _)
  rw [← hw6] at O5 ⊢
  clear hw6
  obtain ⟨bl, hbl⟩ : ∃ bl, bl = w5.heap.size := ⟨_, rfl⟩
  rw [← hbl] at O5 ⊢
  clear hbl
  have LF := hid (fun (w' : World) (kk : Kept [] w6 w') => (show w'.cell? ⟨bl, 0, none⟩ = some (.int .i64 1) ∧ w'.cell? ⟨bl, 1, none⟩ = some (.int .i64 3) ∧ w'.cell? ⟨bl, 2, none⟩ = some (.int .i64 0) ∧ w'.cell? ⟨bl, 3, none⟩ = some (.int .i64 0) from by
    have ho := kk.obj O5.out (by simp)
    exact ⟨by rw [cell_of_obj ho]; rfl, by rw [cell_of_obj ho]; rfl, by rw [cell_of_obj ho]; rfl, by rw [cell_of_obj ho]; rfl⟩))
  have z1 : (zeros 3).length = 3 := by simp [zeros]
  refine (kCommit_no 3 0 0 pa pb ga gb (zeros 3) (zeros 3) _ (T2.out.ext K6.out).cur (T2.out.ext K6.out).acc (by omega) (by omega) rfl (by omega) (by omega)).mono ?_
  rintro e w7 ⟨rfl, hk7⟩
  have K7 := hid hk7
  clear hk7
  obtain ⟨b0, b1, b2, b3⟩ := LF.out _ K7.out
  go_wp2_with fail
  refine (kBegin_no 3 0 0 pa pb ga gb (zeros 3) (zeros 3) _ (T2.out.ext (K6.out.trans K7.out)).cur (T2.out.ext (K6.out.trans K7.out)).acc (by omega) (by omega) rfl (by omega) (by omega)).mono ?_
  rintro e w8 ⟨rfl, hk8⟩
  have K8 := hid (K7.out.trans hk8)
  clear hk8 b0 b1 b2 b3
  obtain ⟨b0, b1, b2, b3⟩ := LF.out _ K8.out
  go_wp2_with fail
  refine (kShard_no 3 0 0 pa pb ga gb (zeros 3) (zeros 3) _ (T2.out.ext (K6.out.trans K8.out)).cur (T2.out.ext (K6.out.trans K8.out)).acc (by omega) (by omega) rfl (by omega) (by omega)).mono ?_
  rintro e w9 ⟨rfl, hk9⟩
  have K9 := hid (K8.out.trans hk9)
  clear hk9 b0 b1 b2 b3
  go_wp2_with fail
  refine (turns_ok _).mono ?_
  rintro e w10 ⟨rfl, hk10⟩
  have K10 := hid (K2.out.trans (K6.out.trans (K9.out.trans hk10)))
  clear hk10
  go_wp2_with fail
  go_ret
  exact ⟨rfl, K10.out⟩
end Go.Proofs.Ytedljgohmlilgaa
