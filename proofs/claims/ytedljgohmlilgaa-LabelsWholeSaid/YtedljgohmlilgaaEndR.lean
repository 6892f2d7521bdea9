/-
  The walk of carousellaw18.ends.
-/
import Derived.Test.YtedljgohmlilgaaGNorm
import Derived.Test.YtedljgohmlilgaaGRank
namespace Go.Proofs.Ytedljgohmlilgaa
open Go.RowKit
set_option linter.unusedVariables false

set_option maxRecDepth 100000 in
set_option maxHeartbeats 1000000 in
theorem rankBegin_no (a b ga gb : Nat) (xs ys : List Int) (w : World) (h : Two w a ga b gb xs ys) (hl : ys.length = xs.length) (hn : xs.length ≤ 256) (h1 : 1 ≤ xs.length) :
    Calls Try.prog 20 #[vec a, vec b, .int .i64 65] w fun e w' => e = .returned (.int .i64 2) ∧ Kept [] w w' := by
  have mL := m_Len
  have HL := hid hl; clear hl
  go_enter Try.func20, Try.ntmps20
  go_wp2_with fail
  have hk0 : Kept [] w ((w.alloc (.cells #[vec a] 102)).alloc (.cells #[vec b] 102)) := ((Kept.refl _ _).alloc _).alloc _
  have h0 := h.ext hk0
  refine (Check_ok a b ga gb xs ys _ h0.cur h0.acc h1 hn HL.out).mono ?_
  rintro e w1 ⟨rfl, hw⟩
  rw [hw] at hk0
  clear hw
  go_wp2_with fail
  go_ret
  exact ⟨rfl, hk0⟩

/-- Two literal rows. -/
theorem out_of {w : World} {L : List Nat} {bo : Nat} {T : TypeId} {vals : List Value} {rows : List (List Nat)} (ho : w.heap[bo]? = some (.cells vals.toArray T (0, 0))) (hb : bo ∉ L) (hl : vals.length = rows.length)
    (h : ∀ i, i < rows.length → ∃ u c, vals[i]? = some (.slice u (row rows i).length c) ∧ IsNats w L u (row rows i)) : IsOut w L (some ⟨bo, 0, none⟩) rows := by
  refine ⟨fun i hi => ⟨bo, 0, rfl, hb, ?_⟩⟩
  obtain ⟨u, c, h1, h2⟩ := h i hi
  exact ⟨u, c, by rw [cell_of_obj ho]; simpa using h1, h2⟩
theorem nats_nil {w : World} {L : List Nat} {a : Option Addr} : IsNats w L a [] := ⟨fun i hi => by simp at hi⟩
theorem nats_of {w : World} {L : List Nat} {b : Nat} {T : TypeId} {xs : List Nat} (ho : w.heap[b]? = some (.cells (intCells xs).toArray T (0, 0))) (hb : b ∉ L) : IsNats w L (some ⟨b, 0, none⟩) xs := by
  refine ⟨fun i hi => ⟨b, 0, rfl, hb, ?_⟩⟩
  rw [cell_of_obj ho]
  simpa using intCells_at hi
theorem row_lit {w : World} {g : Nat} {xs : List Int} (ho : w.heap[g]? = some (.cells (xs.map (Value.int .u64)).toArray 36 (0, 0))) (hl : xs.length ≤ maxLen) : IsRow w 0 (.slice (some ⟨g, 0, none⟩) xs.length xs.length) xs :=
  ⟨by simp, .inr ⟨g, xs.length, (xs.map (Value.int .u64)).toArray, rfl, Nat.zero_le _, ho, Nat.le_refl _, hl, by simp, by simp only [Nat.mul_one]; exact List.take_of_length_le (by simp)⟩⟩

set_option maxRecDepth 100000 in
set_option maxHeartbeats 4000000 in
theorem rankEnds_ok (w : World) : Calls Try.prog 16 #[] w fun e w' => e = .returned (.bool true) ∧ Kept [] w w' := by
  go_enter Try.func16, Try.ntmps16
  go_wp2_with fail
  refine (Fresh_ok 2 w (by decide)).mono ?_
  rintro e w1 ⟨rfl, hk1, ht1, hz1⟩
  obtain ⟨ga, hga⟩ : ∃ ga, ga = w.heap.size := ⟨_, rfl⟩
  obtain ⟨a, ha⟩ : ∃ a, a = w.heap.size + 1 := ⟨_, rfl⟩
  obtain ⟨b, hb⟩ : ∃ b, b = w.heap.size + 3 := ⟨_, rfl⟩
  obtain ⟨gb, hgb⟩ : ∃ gb, gb = w.heap.size + 2 := ⟨_, rfl⟩
  rw [← ha, ← hb, ← hgb, ← hga] at ht1
  rw [← ha, ← hb]
  have hlt1 := ht1.lt
  have HO : Hid (w.heap.size ≤ ga ∧ w.heap.size ≤ gb) := hid (by omega)
  clear hz1 ha hb hgb hga
  go_wp2_with fail
  obtain ⟨n1, hn1⟩ : ∃ n1, n1 = w1.heap.size := ⟨_, rfl⟩
  have kA : Kept [] w1 ((((w1.alloc (.cells #[.int .i64 1] 3)).alloc (.cells #[.int .i64 0] 3)).alloc (.cells #[.slice (some ⟨w1.heap.size, 0, none⟩) 1 1, .slice (some ⟨w1.heap.size + 1, 0, none⟩) 1 1] 64)).alloc (.cells #[.int .i64 0, .int .i64 2, .slice (some ⟨w1.heap.size + 1 + 1, 0, none⟩) 2 2] 45)) := ((((Kept.refl _ _).alloc _).alloc _).alloc _).alloc _
  have o1 : ((((w1.alloc (.cells #[.int .i64 1] 3)).alloc (.cells #[.int .i64 0] 3)).alloc (.cells #[.slice (some ⟨w1.heap.size, 0, none⟩) 1 1, .slice (some ⟨w1.heap.size + 1, 0, none⟩) 1 1] 64)).alloc (.cells #[.int .i64 0, .int .i64 2, .slice (some ⟨w1.heap.size + 1 + 1, 0, none⟩) 2 2] 45)).heap[w1.heap.size]? = some (.cells #[.int .i64 1] 3 (0, 0)) := obj_alloc_old (obj_alloc_old (obj_alloc_old (new_obj rfl) _) _) _
  have o2 : ((((w1.alloc (.cells #[.int .i64 1] 3)).alloc (.cells #[.int .i64 0] 3)).alloc (.cells #[.slice (some ⟨w1.heap.size, 0, none⟩) 1 1, .slice (some ⟨w1.heap.size + 1, 0, none⟩) 1 1] 64)).alloc (.cells #[.int .i64 0, .int .i64 2, .slice (some ⟨w1.heap.size + 1 + 1, 0, none⟩) 2 2] 45)).heap[w1.heap.size + 1]? = some (.cells #[.int .i64 0] 3 (0, 0)) := obj_alloc_old (obj_alloc_old (new_obj (by simp)) _) _
  have o3 : ((((w1.alloc (.cells #[.int .i64 1] 3)).alloc (.cells #[.int .i64 0] 3)).alloc (.cells #[.slice (some ⟨w1.heap.size, 0, none⟩) 1 1, .slice (some ⟨w1.heap.size + 1, 0, none⟩) 1 1] 64)).alloc (.cells #[.int .i64 0, .int .i64 2, .slice (some ⟨w1.heap.size + 1 + 1, 0, none⟩) 2 2] 45)).heap[w1.heap.size + 1 + 1]? = some (.cells #[.slice (some ⟨w1.heap.size, 0, none⟩) 1 1, .slice (some ⟨w1.heap.size + 1, 0, none⟩) 1 1] 64 (0, 0)) := obj_alloc_old (new_obj (by simp)) _
  have o4 : ((((w1.alloc (.cells #[.int .i64 1] 3)).alloc (.cells #[.int .i64 0] 3)).alloc (.cells #[.slice (some ⟨w1.heap.size, 0, none⟩) 1 1, .slice (some ⟨w1.heap.size + 1, 0, none⟩) 1 1] 64)).alloc (.cells #[.int .i64 0, .int .i64 2, .slice (some ⟨w1.heap.size + 1 + 1, 0, none⟩) 2 2] 45)).heap[w1.heap.size + 1 + 1 + 1]? = some (.cells #[.int .i64 0, .int .i64 2, .slice (some ⟨w1.heap.size + 1 + 1, 0, none⟩) 2 2] 45 (0, 0)) := new_obj (by simp)
  generalize hWW : ((((w1.alloc (.cells #[.int .i64 1] 3)).alloc (.cells #[.int .i64 0] 3)).alloc (.cells #[.slice (some ⟨w1.heap.size, 0, none⟩) 1 1, .slice (some ⟨w1.heap.size + 1, 0, none⟩) 1 1] 64)).alloc (.cells #[.int .i64 0, .int .i64 2, .slice (some ⟨w1.heap.size + 1 + 1, 0, none⟩) 2 2] 45)) = W at *
  have hout : IsOut W [ga, gb] (some ⟨w1.heap.size + 1 + 1, 0, none⟩) [[1], [0]] := out_of o3 (by simp; omega) rfl (fun i hi => by
    match i, hi with
    | 0, _ => exact ⟨_, _, rfl, nats_of (xs := [1]) o1 (by simp; omega)⟩
    | 1, _ => exact ⟨_, _, rfl, nats_of (xs := [0]) o2 (by simp; omega)⟩)
  have hns : ∀ k, w1.heap.size ≤ k → k ≠ ga ∧ k ≠ gb := by intro k hk; omega
  obtain ⟨sv, hsv⟩ : ∃ sv, sv = w1.heap.size + 1 + 1 + 1 := ⟨_, rfl⟩
  obtain ⟨so, hso⟩ : ∃ so, so = w1.heap.size + 1 + 1 := ⟨_, rfl⟩
  have hsn : sv ∉ [ga, gb] := by simp; omega
  rw [← hsv, ← hso] at o4
  rw [← hso] at hout
  have e9 : so + 1 = sv := by rw [hsv, hso]
  simp only [← hso, e9]
  have U := hid hout
  have O := hid o4
  have T := hid (ht1.ext kA)
  have K := hid ((hk1.trans kA).of_nil (S := [ga, gb]))
  clear o1 o2 o3 o4 kA hWW hout ht1 hk1 hns e9 hsv hso hn1 n1 hlt1
  refine (rankBegin_ok a b ga gb (zeros 2) (zeros 2) 2 W T.out rfl (by decide) (by decide) (by decide) (by decide)).mono ?_
  rintro e w2 ⟨rfl, hk, ht⟩
  replace K := hid (K.out.trans (hk.to (by simp)))
  replace T := hid ht
  replace O := hid (hk.obj O.out (by simp at hsn ⊢; omega))
  replace U := hid (U.out.kept hk (by simp))
  clear hk ht
  have q0 := cell_of_obj O.out 0
  have q1 := cell_of_obj O.out 1
  have q2 := cell_of_obj O.out 2
  simp at q0 q1 q2
  go_wp2_with fail
  have HW : Within [[1], [0]] 2 := fun i hi j hj => by
    match i, hi with
    | 0, _ => match j, hj with | 0, _ => decide
    | 1, _ => match j, hj with | 0, _ => decide
  have HZ : ∀ i, i < [[1], [0]].length → (row [[1], [0]] i).length ≤ 1000000 := fun i hi => by
    match i, hi with
    | 0, _ => decide
    | 1, _ => decide
  have x1 : Words (tab (fun _ => one) (zeros 2).length) := Words.tab _ (by intro i; unfold one; omega)
  have x2 : Words (tab (fun _ => (0 : Int)) (zeros 2).length) := Words.tab _ (by intro i; omega)
  refine (rankShard_ok [ga, gb] a b ga gb _ _ 0 2 (some ⟨so, 0, none⟩) 2 [[1], [0]] 0 _ T.out (by decide) (by decide) (by decide) U.out (by simp) (by decide) (by decide) (by decide) HW HZ x1 x2).mono ?_
  rintro e w3 ⟨rfl, hk, ht⟩
  replace K := hid (K.out.trans (hk.to (by simp)))
  replace T := hid ht
  replace O := hid (hk.obj O.out (by simp at hsn ⊢; omega))
  replace U := hid (U.out.kept hk (by simp))
  clear hk ht
  clear q0 q1 q2
  go_wp2_with fail
  refine (Read_ok b gb _ _ T.out.acc (by decide)).mono ?_
  rintro e w4 ⟨v, rfl, hk, hr⟩
  replace K := hid (K.out.trans (hk.to (by simp)))
  replace T := hid (T.out.ext hk)
  replace O := hid (hk.obj O.out (by simp))
  replace U := hid (U.out.kept hk (by simp))
  replace hr := hid hr
  clear hk
  go_wp2_with fail
  refine (Numbers_true _ 0 v _ _ [4294967296, 4294967296] _ (ownsRow_kept hr.out ((Kept.refl [] _).alloc _) (by simp)) (row_lit (xs := [4294967296, 4294967296]) (new_obj rfl) (by decide)) (by decide) (by decide)).mono ?_
  rintro e w5 ⟨rfl, hk⟩
  replace hk := ((Kept.refl [] _).alloc _).trans hk
  clear hr
  replace K := hid (K.out.trans (hk.to (by simp)))
  replace T := hid (T.out.ext hk)
  replace O := hid (hk.obj O.out (by simp))
  replace U := hid (U.out.kept hk (by simp))
  clear hk
  go_wp2_with fail
  refine (rankCommit_ok a b ga gb _ _ 2 0 _ T.out (by decide) (by decide) (by decide) (rankShard_words x2 _) (by decide) (by decide) (by decide)).mono ?_
  rintro e w3 ⟨rfl, hk, ht⟩
  rw [show rankDone 2 0 = false by decide]
  replace K := hid (K.out.trans (hk.to (by simp)))
  replace T := hid ht
  replace O := hid (hk.obj O.out (by simp at hsn ⊢; omega))
  replace U := hid (U.out.kept hk (by simp))
  clear hk ht
  go_wp2_with fail
  refine (Read_ok a ga _ _ T.out.cur (by decide)).mono ?_
  rintro e w4 ⟨v, rfl, hk, hr⟩
  replace K := hid (K.out.trans (hk.to (by simp)))
  replace T := hid (T.out.ext hk)
  replace O := hid (hk.obj O.out (by simp))
  replace U := hid (U.out.kept hk (by simp))
  replace hr := hid hr
  clear hk
  go_wp2_with fail
  refine (Numbers_true _ 0 v _ _ [4294967295, 4294967295] _ (ownsRow_kept hr.out ((Kept.refl [] _).alloc _) (by simp)) (row_lit (xs := [4294967295, 4294967295]) (new_obj rfl) (by decide)) (by decide) (by decide)).mono ?_
  rintro e w5 ⟨rfl, hk⟩
  replace hk := ((Kept.refl [] _).alloc _).trans hk
  clear hr
  replace K := hid (K.out.trans (hk.to (by simp)))
  replace T := hid (T.out.ext hk)
  replace O := hid (hk.obj O.out (by simp))
  replace U := hid (U.out.kept hk (by simp))
  clear hk
  go_wp2_with fail
  refine (Read_ok b gb _ _ T.out.acc (by decide)).mono ?_
  rintro e w4 ⟨v, rfl, hk, hr⟩
  replace K := hid (K.out.trans (hk.to (by simp)))
  replace T := hid (T.out.ext hk)
  replace O := hid (hk.obj O.out (by simp))
  replace U := hid (U.out.kept hk (by simp))
  replace hr := hid hr
  clear hk
  go_wp2_with fail
  refine (Numbers_true _ 0 v _ _ [0, 0] _ (ownsRow_kept hr.out ((Kept.refl [] _).alloc _) (by simp)) (row_lit (xs := [0, 0]) (new_obj rfl) (by decide)) (by decide) (by decide)).mono ?_
  rintro e w5 ⟨rfl, hk⟩
  replace hk := ((Kept.refl [] _).alloc _).trans hk
  clear hr
  replace K := hid (K.out.trans (hk.to (by simp)))
  replace T := hid (T.out.ext hk)
  replace O := hid (hk.obj O.out (by simp))
  replace U := hid (U.out.kept hk (by simp))
  clear hk
  go_wp2_with fail
  refine (rankCommit_ok a b ga gb _ _ 2 1 _ T.out (by decide) (by decide) (by decide) (Words.tab _ (by intro i; omega)) (by decide) (by decide) (by decide)).mono ?_
  rintro e w3 ⟨rfl, hk, ht⟩
  rw [show rankDone 2 1 = true by decide]
  replace K := hid (K.out.trans (hk.to (by simp)))
  replace T := hid ht
  replace O := hid (hk.obj O.out (by simp at hsn ⊢; omega))
  replace U := hid (U.out.kept hk (by simp))
  clear hk ht
  go_wp2_with fail
  refine (Read_ok a ga _ _ T.out.cur (by decide)).mono ?_
  rintro e w4 ⟨v, rfl, hk, hr⟩
  replace K := hid (K.out.trans (hk.to (by simp)))
  replace T := hid (T.out.ext hk)
  replace O := hid (hk.obj O.out (by simp))
  replace U := hid (U.out.kept hk (by simp))
  replace hr := hid hr
  clear hk
  go_wp2_with fail
  refine (Numbers_true _ 0 v _ _ [644245094, 644245094] _ (ownsRow_kept hr.out ((Kept.refl [] _).alloc _) (by simp)) (row_lit (xs := [644245094, 644245094]) (new_obj rfl) (by decide)) (by decide) (by decide)).mono ?_
  rintro e w5 ⟨rfl, hk⟩
  replace hk := ((Kept.refl [] _).alloc _).trans hk
  clear hr
  replace K := hid (K.out.trans (hk.to (by simp)))
  replace T := hid (T.out.ext hk)
  replace O := hid (hk.obj O.out (by simp))
  replace U := hid (U.out.kept hk (by simp))
  clear hk
  go_wp2_with fail
  refine (rankBegin_no a b ga gb _ _ _ T.out (by decide) (by decide) (by decide)).mono ?_
  rintro e w3 ⟨rfl, hk⟩
  replace K := hid (K.out.trans (hk.to (by simp)))
  replace T := hid (T.out.ext hk)
  replace O := hid (hk.obj O.out (by simp))
  replace U := hid (U.out.kept hk (by simp))
  go_wp2_with fail
  go_ret
  exact ⟨rfl, K.out.to_nil (by simp; exact HO.out)⟩
end Go.Proofs.Ytedljgohmlilgaa
