/-
  The walk of carousellaw19.ends. (printed by ends.py)
-/
import Derived.Test.YtedljgohmlilgaaGNorm
import Derived.Test.YtedljgohmlilgaaEndR
import Derived.Test.YtedljgohmlilgaaGLab
namespace Go.Proofs.Ytedljgohmlilgaa
open Go.RowKit
set_option linter.unusedVariables false

set_option maxRecDepth 100000 in
set_option maxHeartbeats 1000000 in
theorem labelsBegin_no (a b ga gb : Nat) (xs ys : List Int) (w : World) (h : Two w a ga b gb xs ys) (hl : ys.length = xs.length) (hn : xs.length ≤ 256) (h1 : 1 ≤ xs.length) :
    Calls Try.prog 30 #[vec a, vec b, .int .i64 1] w fun e w' => e = .returned (.int .i64 2) ∧ Kept [] w w' := by
  have mL := m_Len
  have HL := hid hl; clear hl
  have hlt := h.lt
  go_enter Try.func30, Try.ntmps30
  go_wp2_with fail
  have hk0 : Kept [] w ((w.alloc (.cells #[vec a] 113)).alloc (.cells #[vec b] 113)) := ((Kept.refl _ _).alloc _).alloc _
  have h0 := h.ext hk0
  refine (Check_ok a b ga gb xs ys _ h0.cur h0.acc h1 hn HL.out).mono ?_
  rintro e w1 ⟨rfl, hw⟩
  rw [hw] at hk0
  clear hw
  go_wp2_with fail
  go_ret
  exact ⟨rfl, hk0⟩

set_option maxRecDepth 100000 in
set_option maxHeartbeats 4000000 in
theorem labelsEnds_ok (w : World) : Calls Try.prog 25 #[] w fun e w' => e = .returned (.bool true) ∧ Kept [] w w' := by
  go_enter Try.func25, Try.ntmps25
  go_wp2_with fail
  refine (Fresh_ok 3 w (by decide)).mono ?_
  rintro e w1 ⟨rfl, hk1, ht1, hz1⟩
  obtain ⟨ga, hga⟩ : ∃ ga, ga = w.heap.size := ⟨_, rfl⟩
  obtain ⟨a, ha⟩ : ∃ a, a = w.heap.size + 1 := ⟨_, rfl⟩
  obtain ⟨b, hb⟩ : ∃ b, b = w.heap.size + 3 := ⟨_, rfl⟩
  obtain ⟨gb, hgb⟩ : ∃ gb, gb = w.heap.size + 2 := ⟨_, rfl⟩
  rw [← ha, ← hb, ← hgb, ← hga] at ht1
  rw [← ha, ← hb]
  have hlt1 := ht1.lt
  have HO : Hid (w.heap.size ≤ ga ∧ w.heap.size ≤ gb) := hid (by omega)
  clear hz1 ha hb hgb hga
  go_wp2_with fail
  have kA : Kept [] w1 (((w1.alloc (.cells #[.int .i64 1] 3)).alloc (.cells #[.slice none 0 0, .slice none 0 0, .slice (some ⟨w1.heap.size, 0, none⟩) 1 1] 64)).alloc (.cells #[.int .i64 0, .int .i64 3, .slice (some ⟨w1.heap.size + 1, 0, none⟩) 3 3] 45)) := ((((Kept.refl _ _).alloc _).alloc _).alloc _)
  have o0 : (((w1.alloc (.cells #[.int .i64 1] 3)).alloc (.cells #[.slice none 0 0, .slice none 0 0, .slice (some ⟨w1.heap.size, 0, none⟩) 1 1] 64)).alloc (.cells #[.int .i64 0, .int .i64 3, .slice (some ⟨w1.heap.size + 1, 0, none⟩) 3 3] 45)).heap[w1.heap.size]? = some (.cells #[.int .i64 1] 3 (0, 0)) := (obj_alloc_old (obj_alloc_old (new_obj (by simp)) _) _)
  have oc : (((w1.alloc (.cells #[.int .i64 1] 3)).alloc (.cells #[.slice none 0 0, .slice none 0 0, .slice (some ⟨w1.heap.size, 0, none⟩) 1 1] 64)).alloc (.cells #[.int .i64 0, .int .i64 3, .slice (some ⟨w1.heap.size + 1, 0, none⟩) 3 3] 45)).heap[w1.heap.size + 1]? = some (.cells #[.slice none 0 0, .slice none 0 0, .slice (some ⟨w1.heap.size, 0, none⟩) 1 1] 64 (0, 0)) := (obj_alloc_old (new_obj (by simp)) _)
  have os : (((w1.alloc (.cells #[.int .i64 1] 3)).alloc (.cells #[.slice none 0 0, .slice none 0 0, .slice (some ⟨w1.heap.size, 0, none⟩) 1 1] 64)).alloc (.cells #[.int .i64 0, .int .i64 3, .slice (some ⟨w1.heap.size + 1, 0, none⟩) 3 3] 45)).heap[w1.heap.size + 1 + 1]? = some (.cells #[.int .i64 0, .int .i64 3, .slice (some ⟨w1.heap.size + 1, 0, none⟩) 3 3] 45 (0, 0)) := new_obj (by simp)
  generalize hWW : (((w1.alloc (.cells #[.int .i64 1] 3)).alloc (.cells #[.slice none 0 0, .slice none 0 0, .slice (some ⟨w1.heap.size, 0, none⟩) 1 1] 64)).alloc (.cells #[.int .i64 0, .int .i64 3, .slice (some ⟨w1.heap.size + 1, 0, none⟩) 3 3] 45)) = W at *
  have hout : IsOut W [ga, gb] (some ⟨w1.heap.size + 1, 0, none⟩) [[], [], [1]] := out_of oc (by simp; omega) rfl (fun i hi => by
    match i, hi with
    | 0, _ => exact ⟨_, _, rfl, nats_nil⟩
    | 1, _ => exact ⟨_, _, rfl, nats_nil⟩
    | 2, _ => exact ⟨_, _, rfl, nats_of (xs := [1]) o0 (by simp; omega)⟩)
  obtain ⟨sv, hsv⟩ : ∃ sv, sv = w1.heap.size + 1 + 1 := ⟨_, rfl⟩
  obtain ⟨so, hso⟩ : ∃ so, so = w1.heap.size + 1 := ⟨_, rfl⟩
  have hsn : sv ∉ [ga, gb] := by simp; omega
  rw [← hsv, ← hso] at os
  rw [← hso] at hout
  have e9 : so + 1 = sv := by rw [hsv, hso]
  simp only [← hso, e9]
  have U := hid hout
  have O := hid os
  have T := hid (ht1.ext kA)
  have K := hid ((hk1.trans kA).of_nil (S := [ga, gb]))
  have q0 := cell_of_obj O.out 0
  have q1 := cell_of_obj O.out 1
  have q2 := cell_of_obj O.out 2
  simp at q0 q1 q2
  clear o0 oc os kA hWW hout ht1 hk1 e9 hsv hso hlt1
  have HW : Within [[], [], [1]] 3 := fun i hi j hj => by
    match i, hi with
    | 0, _ => exact absurd hj (Nat.not_lt_zero _)
    | 1, _ => exact absurd hj (Nat.not_lt_zero _)
    | 2, _ => match j, hj with | 0, _ => decide
  have HZ : ∀ i, i < ([[], [], [1]] : List (List Nat)).length → (row [[], [], [1]] i).length ≤ 1000000 := fun i hi => by
    match i, hi with
    | 0, _ => decide
    | 1, _ => decide
    | 2, _ => decide
  refine (labelsBegin_ok a b ga gb (zeros 3) (zeros 3) W T.out rfl (by decide) (by decide)).mono ?_
  rintro e w3 ⟨rfl, hk, ht⟩
  replace K := hid (K.out.trans (hk.to (by simp)))
  replace T := hid ht
  replace O := hid (hk.obj O.out (by simp at hsn ⊢; omega))
  replace U := hid (U.out.kept hk (by simp))
  replace q0 := hk.cell_some q0 (by simp at hsn ⊢; omega)
  replace q1 := hk.cell_some q1 (by simp at hsn ⊢; omega)
  replace q2 := hk.cell_some q2 (by simp at hsn ⊢; omega)
  clear hk ht
  go_wp2_with fail
  refine (labelsShard_ok [ga, gb] a b ga gb _ _ 0 3 (some ⟨so, 0, none⟩) 3 [[], [], [1]] 0 _ T.out (by decide) (by decide) (by decide) U.out (by simp) (by decide) (by decide) (by decide) HW HZ).mono ?_
  rintro e w3 ⟨rfl, hk, ht⟩
  replace K := hid (K.out.trans (hk.to (by simp)))
  replace T := hid ht
  replace O := hid (hk.obj O.out (by simp at hsn ⊢; omega))
  replace U := hid (U.out.kept hk (by simp))
  replace q0 := hk.cell_some q0 (by simp at hsn ⊢; omega)
  replace q1 := hk.cell_some q1 (by simp at hsn ⊢; omega)
  replace q2 := hk.cell_some q2 (by simp at hsn ⊢; omega)
  clear hk ht
  go_wp2_with fail
  refine (Read_ok b gb _ _ T.out.acc (by decide)).mono ?_
  rintro e w4 ⟨v, rfl, hk, hr⟩
  replace K := hid (K.out.trans (hk.to (by simp)))
  replace T := hid (T.out.ext hk)
  replace O := hid (hk.obj O.out (by simp))
  replace U := hid (U.out.kept hk (by simp))
  replace q0 := hk.cell_some q0 (by simp)
  replace q1 := hk.cell_some q1 (by simp)
  replace q2 := hk.cell_some q2 (by simp)
  replace hr := hid hr
  clear hk
  go_wp2_with fail
  refine (Numbers_true _ 0 v _ _ [0, 1, 1] _ (ownsRow_kept hr.out ((Kept.refl [] _).alloc _) (by simp)) (row_lit (xs := [0, 1, 1]) (new_obj rfl) (by decide)) (by decide) (by decide)).mono ?_
  rintro e w5 ⟨rfl, hk⟩
  replace hk := ((Kept.refl [] _).alloc _).trans hk
  clear hr
  replace K := hid (K.out.trans (hk.to (by simp)))
  replace T := hid (T.out.ext hk)
  replace O := hid (hk.obj O.out (by simp))
  replace U := hid (U.out.kept hk (by simp))
  replace q0 := hk.cell_some q0 (by simp)
  replace q1 := hk.cell_some q1 (by simp)
  replace q2 := hk.cell_some q2 (by simp)
  clear hk
  go_wp2_with fail
  refine (labelsCommit_ok a b ga gb _ _ 0 0 _ T.out (by decide) (by decide) (by decide)).mono ?_
  rintro e w3 ⟨rfl, hk, ht⟩
  rw [show labelsDone _ _ = false by decide]
  replace K := hid (K.out.trans (hk.to (by simp)))
  replace T := hid ht
  replace O := hid (hk.obj O.out (by simp at hsn ⊢; omega))
  replace U := hid (U.out.kept hk (by simp))
  replace q0 := hk.cell_some q0 (by simp at hsn ⊢; omega)
  replace q1 := hk.cell_some q1 (by simp at hsn ⊢; omega)
  replace q2 := hk.cell_some q2 (by simp at hsn ⊢; omega)
  clear hk ht
  go_wp2_with fail
  refine (Read_ok a ga _ _ T.out.cur (by decide)).mono ?_
  rintro e w4 ⟨v, rfl, hk, hr⟩
  replace K := hid (K.out.trans (hk.to (by simp)))
  replace T := hid (T.out.ext hk)
  replace O := hid (hk.obj O.out (by simp))
  replace U := hid (U.out.kept hk (by simp))
  replace q0 := hk.cell_some q0 (by simp)
  replace q1 := hk.cell_some q1 (by simp)
  replace q2 := hk.cell_some q2 (by simp)
  replace hr := hid hr
  clear hk
  go_wp2_with fail
  refine (Numbers_true _ 0 v _ _ [0, 1, 1] _ (ownsRow_kept hr.out ((Kept.refl [] _).alloc _) (by simp)) (row_lit (xs := [0, 1, 1]) (new_obj rfl) (by decide)) (by decide) (by decide)).mono ?_
  rintro e w5 ⟨rfl, hk⟩
  replace hk := ((Kept.refl [] _).alloc _).trans hk
  clear hr
  replace K := hid (K.out.trans (hk.to (by simp)))
  replace T := hid (T.out.ext hk)
  replace O := hid (hk.obj O.out (by simp))
  replace U := hid (U.out.kept hk (by simp))
  replace q0 := hk.cell_some q0 (by simp)
  replace q1 := hk.cell_some q1 (by simp)
  replace q2 := hk.cell_some q2 (by simp)
  clear hk
  go_wp2_with fail
  refine (labelsShard_ok [ga, gb] a b ga gb _ _ 0 3 (some ⟨so, 0, none⟩) 3 [[], [], [1]] 1 _ T.out (by decide) (by decide) (by decide) U.out (by simp) (by decide) (by decide) (by decide) HW HZ).mono ?_
  rintro e w3 ⟨rfl, hk, ht⟩
  replace K := hid (K.out.trans (hk.to (by simp)))
  replace T := hid ht
  replace O := hid (hk.obj O.out (by simp at hsn ⊢; omega))
  replace U := hid (U.out.kept hk (by simp))
  replace q0 := hk.cell_some q0 (by simp at hsn ⊢; omega)
  replace q1 := hk.cell_some q1 (by simp at hsn ⊢; omega)
  replace q2 := hk.cell_some q2 (by simp at hsn ⊢; omega)
  clear hk ht
  go_wp2_with fail
  refine (labelsCommit_ok a b ga gb _ _ 0 1 _ T.out (by decide) (by decide) (by decide)).mono ?_
  rintro e w3 ⟨rfl, hk, ht⟩
  rw [show labelsDone _ _ = true by decide]
  replace K := hid (K.out.trans (hk.to (by simp)))
  replace T := hid ht
  replace O := hid (hk.obj O.out (by simp at hsn ⊢; omega))
  replace U := hid (U.out.kept hk (by simp))
  replace q0 := hk.cell_some q0 (by simp at hsn ⊢; omega)
  replace q1 := hk.cell_some q1 (by simp at hsn ⊢; omega)
  replace q2 := hk.cell_some q2 (by simp at hsn ⊢; omega)
  clear hk ht
  go_wp2_with fail
  refine (labelsBegin_no a b ga gb _ _ _ T.out (by decide) (by decide) (by decide)).mono ?_
  rintro e w3 ⟨rfl, hk⟩
  replace K := hid (K.out.trans (hk.to (by simp)))
  replace T := hid (T.out.ext hk)
  replace O := hid (hk.obj O.out (by simp))
  replace U := hid (U.out.kept hk (by simp))
  replace q0 := hk.cell_some q0 (by simp)
  replace q1 := hk.cell_some q1 (by simp)
  replace q2 := hk.cell_some q2 (by simp)
  go_wp2_with fail
  go_ret
  exact ⟨rfl, K.out.to_nil (by simp; exact HO.out)⟩
end Go.Proofs.Ytedljgohmlilgaa
