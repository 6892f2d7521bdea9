/-
  The walk of carousellaw17.ends. (printed by ends.py)
-/
import Derived.Test.YtedljgohmlilgaaGNorm
import Derived.Test.YtedljgohmlilgaaEndR
import Derived.Test.YtedljgohmlilgaaGBfs
import Derived.Deep.QuietTactic
import Derived.BigQuiet
namespace Go.Proofs.Ytedljgohmlilgaa
open Go.RowKit
set_option linter.unusedVariables false

set_option maxRecDepth 100000 in
set_option maxHeartbeats 1000000 in
theorem bfsBegin_no (a b ga gb : Nat) (xs ys : List Int) (w : World) (h : Two w a ga b gb xs ys) (hl : ys.length = xs.length) (hn : xs.length = 3) :
    Calls Try.prog 33 #[vec a, vec b, .int .i64 3] w fun e w' => e = .returned (.int .i64 2) ∧ Kept [] w w' := by
  have mL := m_Len
  have HL := hid hl; clear hl
  have hlt := h.lt
  go_enter Try.func33, Try.ntmps33
  go_wp2_with fail
  have hk0 : Kept [] w (((w.alloc (.cells #[vec a] 117)).alloc (.cells #[vec b] 117)).alloc (.cells #[.int .i64 3] 3)) := (((Kept.refl _ _).alloc _).alloc _).alloc _
  have h0 := h.ext hk0
  refine (Check_ok a b ga gb xs ys _ h0.cur h0.acc (by omega) (by omega) HL.out).mono ?_
  rintro e w1 ⟨rfl, hw⟩
  have b1 : Box w1 [ga, gb] w.heap.size (vec a) := ⟨by rw [← hw]; exact old_cell _ (old_cell _ (new_cell (by simp))), by simp; omega⟩
  have b2 : Box w1 [ga, gb] (w.heap.size + 1) (vec b) := ⟨by rw [← hw]; exact old_cell _ (new_cell (by simp)), by simp; omega⟩
  have b3 : Box w1 [ga, gb] (w.heap.size + 1 + 1) (.int .i64 3) := ⟨by rw [← hw]; exact new_cell (by simp), by simp; omega⟩
  rw [hw] at hk0 h0
  clear hw
  have c1 := b1.cell
  have c2 := b2.cell
  have c3 := b3.cell
  have hL3 := Len_ok a ga xs
  rw [hn] at hL3
  go_wp2_with fail
  go_quiet ((go_at_call 61; exact quiet_same (hL3 _ (h0.ext ((Kept.refl _ _).drewN _)).cur)))
  have hk1 := hid (hk0.drewN nq)
  go_wp2_with fail
  go_ret
  exact ⟨rfl, hk1.out⟩

set_option maxRecDepth 100000 in
set_option maxHeartbeats 4000000 in
theorem bfsEnds_ok (w : World) : Calls Try.prog 32 #[] w fun e w' => e = .returned (.bool true) ∧ Kept [] w w' := by
  go_enter Try.func32, Try.ntmps32
  go_wp2_with fail
  refine (Fresh_ok 3 w (by decide)).mono ?_
  rintro e w1 ⟨rfl, hk1, ht1, hz1⟩
  obtain ⟨ga, hga⟩ : ∃ ga, ga = w.heap.size := ⟨_, rfl⟩
  obtain ⟨a, ha⟩ : ∃ a, a = w.heap.size + 1 := ⟨_, rfl⟩
  obtain ⟨b, hb⟩ : ∃ b, b = w.heap.size + 3 := ⟨_, rfl⟩
  obtain ⟨gb, hgb⟩ : ∃ gb, gb = w.heap.size + 2 := ⟨_, rfl⟩
  rw [← ha, ← hb, ← hgb, ← hga] at ht1
  rw [← ha, ← hb]
  have hlt1 := ht1.lt
  have HO : Hid (w.heap.size ≤ ga ∧ w.heap.size ≤ gb) := hid (by omega)
  clear hz1 ha hb hgb hga
  go_wp2_with fail
  have kA : Kept [] w1 ((((w1.alloc (.cells #[.int .i64 1] 3)).alloc (.cells #[.int .i64 2] 3)).alloc (.cells #[.slice (some ⟨w1.heap.size, 0, none⟩) 1 1, .slice (some ⟨w1.heap.size + 1, 0, none⟩) 1 1] 64)).alloc (.cells #[.int .i64 0, .int .i64 2, .slice (some ⟨w1.heap.size + 1 + 1, 0, none⟩) 2 2] 45)) := (((((Kept.refl _ _).alloc _).alloc _).alloc _).alloc _)
  have o0 : ((((w1.alloc (.cells #[.int .i64 1] 3)).alloc (.cells #[.int .i64 2] 3)).alloc (.cells #[.slice (some ⟨w1.heap.size, 0, none⟩) 1 1, .slice (some ⟨w1.heap.size + 1, 0, none⟩) 1 1] 64)).alloc (.cells #[.int .i64 0, .int .i64 2, .slice (some ⟨w1.heap.size + 1 + 1, 0, none⟩) 2 2] 45)).heap[w1.heap.size]? = some (.cells #[.int .i64 1] 3 (0, 0)) := (obj_alloc_old (obj_alloc_old (obj_alloc_old (new_obj (by simp)) _) _) _)
  have o1 : ((((w1.alloc (.cells #[.int .i64 1] 3)).alloc (.cells #[.int .i64 2] 3)).alloc (.cells #[.slice (some ⟨w1.heap.size, 0, none⟩) 1 1, .slice (some ⟨w1.heap.size + 1, 0, none⟩) 1 1] 64)).alloc (.cells #[.int .i64 0, .int .i64 2, .slice (some ⟨w1.heap.size + 1 + 1, 0, none⟩) 2 2] 45)).heap[w1.heap.size + 1]? = some (.cells #[.int .i64 2] 3 (0, 0)) := (obj_alloc_old (obj_alloc_old (new_obj (by simp)) _) _)
  have oc : ((((w1.alloc (.cells #[.int .i64 1] 3)).alloc (.cells #[.int .i64 2] 3)).alloc (.cells #[.slice (some ⟨w1.heap.size, 0, none⟩) 1 1, .slice (some ⟨w1.heap.size + 1, 0, none⟩) 1 1] 64)).alloc (.cells #[.int .i64 0, .int .i64 2, .slice (some ⟨w1.heap.size + 1 + 1, 0, none⟩) 2 2] 45)).heap[w1.heap.size + 1 + 1]? = some (.cells #[.slice (some ⟨w1.heap.size, 0, none⟩) 1 1, .slice (some ⟨w1.heap.size + 1, 0, none⟩) 1 1] 64 (0, 0)) := (obj_alloc_old (new_obj (by simp)) _)
  have os : ((((w1.alloc (.cells #[.int .i64 1] 3)).alloc (.cells #[.int .i64 2] 3)).alloc (.cells #[.slice (some ⟨w1.heap.size, 0, none⟩) 1 1, .slice (some ⟨w1.heap.size + 1, 0, none⟩) 1 1] 64)).alloc (.cells #[.int .i64 0, .int .i64 2, .slice (some ⟨w1.heap.size + 1 + 1, 0, none⟩) 2 2] 45)).heap[w1.heap.size + 1 + 1 + 1]? = some (.cells #[.int .i64 0, .int .i64 2, .slice (some ⟨w1.heap.size + 1 + 1, 0, none⟩) 2 2] 45 (0, 0)) := new_obj (by simp)
  generalize hWW : ((((w1.alloc (.cells #[.int .i64 1] 3)).alloc (.cells #[.int .i64 2] 3)).alloc (.cells #[.slice (some ⟨w1.heap.size, 0, none⟩) 1 1, .slice (some ⟨w1.heap.size + 1, 0, none⟩) 1 1] 64)).alloc (.cells #[.int .i64 0, .int .i64 2, .slice (some ⟨w1.heap.size + 1 + 1, 0, none⟩) 2 2] 45)) = W at *
  have hout : IsOut W [ga, gb] (some ⟨w1.heap.size + 1 + 1, 0, none⟩) [[1], [2]] := out_of oc (by simp; omega) rfl (fun i hi => by
    match i, hi with
    | 0, _ => exact ⟨_, _, rfl, nats_of (xs := [1]) o0 (by simp; omega)⟩
    | 1, _ => exact ⟨_, _, rfl, nats_of (xs := [2]) o1 (by simp; omega)⟩)
  obtain ⟨sv, hsv⟩ : ∃ sv, sv = w1.heap.size + 1 + 1 + 1 := ⟨_, rfl⟩
  obtain ⟨so, hso⟩ : ∃ so, so = w1.heap.size + 1 + 1 := ⟨_, rfl⟩
  have hsn : sv ∉ [ga, gb] := by simp; omega
  rw [← hsv, ← hso] at os
  rw [← hso] at hout
  have e9 : so + 1 = sv := by rw [hsv, hso]
  simp only [← hso, e9]
  have U := hid hout
  have O := hid os
  have T := hid (ht1.ext kA)
  have K := hid ((hk1.trans kA).of_nil (S := [ga, gb]))
  have q0 := cell_of_obj O.out 0
  have q1 := cell_of_obj O.out 1
  have q2 := cell_of_obj O.out 2
  simp at q0 q1 q2
  clear o0 o1 oc os kA hWW hout ht1 hk1 e9 hsv hso hlt1
  have HW : Within [[1], [2]] 3 := fun i hi j hj => by
    match i, hi with
    | 0, _ => match j, hj with | 0, _ => decide
    | 1, _ => match j, hj with | 0, _ => decide
  have HZ : ∀ i, i < ([[1], [2]] : List (List Nat)).length → (row [[1], [2]] i).length ≤ 1000000 := fun i hi => by
    match i, hi with
    | 0, _ => decide
    | 1, _ => decide
  refine (bfsBegin_ok a b ga gb (zeros 3) (zeros 3) 0 W T.out rfl (by decide) (by decide) (by decide)).mono ?_
  rintro e w3 ⟨rfl, hk, ht⟩
  replace K := hid (K.out.trans (hk.to (by simp)))
  replace T := hid ht
  replace O := hid (hk.obj O.out (by simp at hsn ⊢; omega))
  replace U := hid (U.out.kept hk (by simp))
  replace q0 := hk.cell_some q0 (by simp at hsn ⊢; omega)
  replace q1 := hk.cell_some q1 (by simp at hsn ⊢; omega)
  replace q2 := hk.cell_some q2 (by simp at hsn ⊢; omega)
  clear hk ht
  go_wp2_with fail
  refine (bfsShard_ok [ga, gb] a b ga gb _ _ 0 2 (some ⟨so, 0, none⟩) 2 [[1], [2]] 0 _ T.out (by decide) (by decide) (by decide) U.out (by simp) (by decide) (by decide) (by decide) HW (fun i hi => Nat.le_trans (HZ i hi) (by decide)) (by decide)).mono ?_
  rintro e w3 ⟨rfl, hk, ht⟩
  replace K := hid (K.out.trans (hk.to (by simp)))
  replace T := hid ht
  replace O := hid (hk.obj O.out (by simp at hsn ⊢; omega))
  replace U := hid (U.out.kept hk (by simp))
  replace q0 := hk.cell_some q0 (by simp at hsn ⊢; omega)
  replace q1 := hk.cell_some q1 (by simp at hsn ⊢; omega)
  replace q2 := hk.cell_some q2 (by simp at hsn ⊢; omega)
  clear hk ht
  go_wp2_with fail
  refine (Read_ok b gb _ _ T.out.acc (by decide)).mono ?_
  rintro e w4 ⟨v, rfl, hk, hr⟩
  replace K := hid (K.out.trans (hk.to (by simp)))
  replace T := hid (T.out.ext hk)
  replace O := hid (hk.obj O.out (by simp))
  replace U := hid (U.out.kept hk (by simp))
  replace q0 := hk.cell_some q0 (by simp)
  replace q1 := hk.cell_some q1 (by simp)
  replace q2 := hk.cell_some q2 (by simp)
  replace hr := hid hr
  clear hk
  go_wp2_with fail
  refine (Numbers_true _ 0 v _ _ [18446744073709551615, 1, 18446744073709551615] _ (ownsRow_kept hr.out ((Kept.refl [] _).alloc _) (by simp)) (row_lit (xs := [18446744073709551615, 1, 18446744073709551615]) (new_obj rfl) (by decide)) (by decide) (by decide)).mono ?_
  rintro e w5 ⟨rfl, hk⟩
  replace hk := ((Kept.refl [] _).alloc _).trans hk
  clear hr
  replace K := hid (K.out.trans (hk.to (by simp)))
  replace T := hid (T.out.ext hk)
  replace O := hid (hk.obj O.out (by simp))
  replace U := hid (U.out.kept hk (by simp))
  replace q0 := hk.cell_some q0 (by simp)
  replace q1 := hk.cell_some q1 (by simp)
  replace q2 := hk.cell_some q2 (by simp)
  clear hk
  go_wp2_with fail
  refine (bfsCommit_ok a b ga gb _ _ 0 0 _ T.out (by decide) (by decide) (by decide)).mono ?_
  rintro e w3 ⟨rfl, hk, ht⟩
  rw [show bfsDone _ _ = false by decide]
  replace K := hid (K.out.trans (hk.to (by simp)))
  replace T := hid ht
  replace O := hid (hk.obj O.out (by simp at hsn ⊢; omega))
  replace U := hid (U.out.kept hk (by simp))
  replace q0 := hk.cell_some q0 (by simp at hsn ⊢; omega)
  replace q1 := hk.cell_some q1 (by simp at hsn ⊢; omega)
  replace q2 := hk.cell_some q2 (by simp at hsn ⊢; omega)
  clear hk ht
  go_wp2_with fail
  refine (Read_ok a ga _ _ T.out.cur (by decide)).mono ?_
  rintro e w4 ⟨v, rfl, hk, hr⟩
  replace K := hid (K.out.trans (hk.to (by simp)))
  replace T := hid (T.out.ext hk)
  replace O := hid (hk.obj O.out (by simp))
  replace U := hid (U.out.kept hk (by simp))
  replace q0 := hk.cell_some q0 (by simp)
  replace q1 := hk.cell_some q1 (by simp)
  replace q2 := hk.cell_some q2 (by simp)
  replace hr := hid hr
  clear hk
  go_wp2_with fail
  refine (Numbers_true _ 0 v _ _ [0, 1, 18446744073709551615] _ (ownsRow_kept hr.out ((Kept.refl [] _).alloc _) (by simp)) (row_lit (xs := [0, 1, 18446744073709551615]) (new_obj rfl) (by decide)) (by decide) (by decide)).mono ?_
  rintro e w5 ⟨rfl, hk⟩
  replace hk := ((Kept.refl [] _).alloc _).trans hk
  clear hr
  replace K := hid (K.out.trans (hk.to (by simp)))
  replace T := hid (T.out.ext hk)
  replace O := hid (hk.obj O.out (by simp))
  replace U := hid (U.out.kept hk (by simp))
  replace q0 := hk.cell_some q0 (by simp)
  replace q1 := hk.cell_some q1 (by simp)
  replace q2 := hk.cell_some q2 (by simp)
  clear hk
  go_wp2_with fail
  refine (bfsShard_ok [ga, gb] a b ga gb _ _ 0 2 (some ⟨so, 0, none⟩) 2 [[1], [2]] 1 _ T.out (by decide) (by decide) (by decide) U.out (by simp) (by decide) (by decide) (by decide) HW (fun i hi => Nat.le_trans (HZ i hi) (by decide)) (by decide)).mono ?_
  rintro e w3 ⟨rfl, hk, ht⟩
  replace K := hid (K.out.trans (hk.to (by simp)))
  replace T := hid ht
  replace O := hid (hk.obj O.out (by simp at hsn ⊢; omega))
  replace U := hid (U.out.kept hk (by simp))
  replace q0 := hk.cell_some q0 (by simp at hsn ⊢; omega)
  replace q1 := hk.cell_some q1 (by simp at hsn ⊢; omega)
  replace q2 := hk.cell_some q2 (by simp at hsn ⊢; omega)
  clear hk ht
  go_wp2_with fail
  refine (bfsCommit_ok a b ga gb _ _ 0 1 _ T.out (by decide) (by decide) (by decide)).mono ?_
  rintro e w3 ⟨rfl, hk, ht⟩
  rw [show bfsDone _ _ = false by decide]
  replace K := hid (K.out.trans (hk.to (by simp)))
  replace T := hid ht
  replace O := hid (hk.obj O.out (by simp at hsn ⊢; omega))
  replace U := hid (U.out.kept hk (by simp))
  replace q0 := hk.cell_some q0 (by simp at hsn ⊢; omega)
  replace q1 := hk.cell_some q1 (by simp at hsn ⊢; omega)
  replace q2 := hk.cell_some q2 (by simp at hsn ⊢; omega)
  clear hk ht
  go_wp2_with fail
  refine (bfsShard_ok [ga, gb] a b ga gb _ _ 0 2 (some ⟨so, 0, none⟩) 2 [[1], [2]] 2 _ T.out (by decide) (by decide) (by decide) U.out (by simp) (by decide) (by decide) (by decide) HW (fun i hi => Nat.le_trans (HZ i hi) (by decide)) (by decide)).mono ?_
  rintro e w3 ⟨rfl, hk, ht⟩
  replace K := hid (K.out.trans (hk.to (by simp)))
  replace T := hid ht
  replace O := hid (hk.obj O.out (by simp at hsn ⊢; omega))
  replace U := hid (U.out.kept hk (by simp))
  replace q0 := hk.cell_some q0 (by simp at hsn ⊢; omega)
  replace q1 := hk.cell_some q1 (by simp at hsn ⊢; omega)
  replace q2 := hk.cell_some q2 (by simp at hsn ⊢; omega)
  clear hk ht
  go_wp2_with fail
  refine (bfsCommit_ok a b ga gb _ _ 0 2 _ T.out (by decide) (by decide) (by decide)).mono ?_
  rintro e w3 ⟨rfl, hk, ht⟩
  rw [show bfsDone _ _ = true by decide]
  replace K := hid (K.out.trans (hk.to (by simp)))
  replace T := hid ht
  replace O := hid (hk.obj O.out (by simp at hsn ⊢; omega))
  replace U := hid (U.out.kept hk (by simp))
  replace q0 := hk.cell_some q0 (by simp at hsn ⊢; omega)
  replace q1 := hk.cell_some q1 (by simp at hsn ⊢; omega)
  replace q2 := hk.cell_some q2 (by simp at hsn ⊢; omega)
  clear hk ht
  go_wp2_with fail
  refine (Read_ok a ga _ _ T.out.cur (by decide)).mono ?_
  rintro e w4 ⟨v, rfl, hk, hr⟩
  replace K := hid (K.out.trans (hk.to (by simp)))
  replace T := hid (T.out.ext hk)
  replace O := hid (hk.obj O.out (by simp))
  replace U := hid (U.out.kept hk (by simp))
  replace q0 := hk.cell_some q0 (by simp)
  replace q1 := hk.cell_some q1 (by simp)
  replace q2 := hk.cell_some q2 (by simp)
  replace hr := hid hr
  clear hk
  go_wp2_with fail
  refine (Numbers_true _ 0 v _ _ [0, 1, 2] _ (ownsRow_kept hr.out ((Kept.refl [] _).alloc _) (by simp)) (row_lit (xs := [0, 1, 2]) (new_obj rfl) (by decide)) (by decide) (by decide)).mono ?_
  rintro e w5 ⟨rfl, hk⟩
  replace hk := ((Kept.refl [] _).alloc _).trans hk
  clear hr
  replace K := hid (K.out.trans (hk.to (by simp)))
  replace T := hid (T.out.ext hk)
  replace O := hid (hk.obj O.out (by simp))
  replace U := hid (U.out.kept hk (by simp))
  replace q0 := hk.cell_some q0 (by simp)
  replace q1 := hk.cell_some q1 (by simp)
  replace q2 := hk.cell_some q2 (by simp)
  clear hk
  go_wp2_with fail
  refine (bfsBegin_no a b ga gb _ _ _ T.out (by decide) (by decide)).mono ?_
  rintro e w3 ⟨rfl, hk⟩
  replace K := hid (K.out.trans (hk.to (by simp)))
  replace T := hid (T.out.ext hk)
  replace O := hid (hk.obj O.out (by simp))
  replace U := hid (U.out.kept hk (by simp))
  replace q0 := hk.cell_some q0 (by simp)
  replace q1 := hk.cell_some q1 (by simp)
  replace q2 := hk.cell_some q2 (by simp)
  go_wp2_with fail
  go_ret
  exact ⟨rfl, K.out.to_nil (by simp; exact HO.out)⟩
end Go.Proofs.Ytedljgohmlilgaa
