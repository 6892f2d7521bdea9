/-
  The walks of Fresh, Read, Numbers.
-/
import Derived.Test.YtedljgohmlilgaaSh
import Derived.Deep.QuietTactic
import Derived.BigQuiet
namespace Go.Proofs.Ytedljgohmlilgaa
open Go.RowKit
set_option linter.unusedVariables false

theorem Fresh_ok (n : Nat) (w : World) (hn : n ≤ 256) :
    Calls Try.prog 19 #[.int .i64 n] w fun e w' => e = .returned (.tuple #[.pointer (some ⟨w.heap.size + 1, 0, none⟩), .pointer (some ⟨w.heap.size + 3, 0, none⟩)]) ∧ Kept [] w w' ∧ Two w' (w.heap.size + 1) w.heap.size (w.heap.size + 3) (w.heap.size + 2) (zeros n) (zeros n) ∧ w'.heap.size = w.heap.size + 4 := by
  go_enter Try.func19, Try.ntmps19
  go_wp2_with fail
  refine (New_ok n w hn).mono ?_
  rintro e w1 ⟨rfl, hk1, hv1, hl1⟩
  have HL1 := hid hl1
  clear hl1
  go_wp2_with fail
  refine (New_ok n w1 hn).mono ?_
  rintro e w2 ⟨rfl, hk2, hv2, hl2⟩
  rw [HL1.out] at hv2 hl2
  have HL2 := hid hl2
  have HV := hid hv2
  have HK := hid (hk1.trans hk2)
  have HV1 := hid (hv1.kept hk2 (by simp) (by simp))
  have HLE := hid (show w1.heap.size + 1 = w.heap.size + 3 by rw [HL1.out])
  clear hv2 hl2 hv1 hk1 hk2
  go_wp2_with fail
  go_ret2
  refine ⟨?_, HK.out, ⟨HV1.out, HV.out, ?_, ?_, ?_⟩, HL2.out⟩
  · simp [HLE.out]
  all_goals omega

/-- Numbers in memory of a call's own. -/
abbrev IsRow (w : World) (B : Nat) (v : Value) (xs : List Int) : Prop := w.ownsRow B 36 1 v xs.length (xs.map (Value.int .u64))

theorem info_u64' : (Try.prog.info? 36).map (fun i => (i.zero, i.size, i.bytes)) = some (some (.int .u64 0), 1, 8) := by kernel_rfl
theorem take_nth {xs : List Int} {k : Nat} (h : k < xs.length) : xs.take (k + 1) = xs.take k ++ [nth xs k] := by
  rw [List.take_succ_eq_append_getElem h]; simp [nth, h]

set_option maxRecDepth 100000 in
set_option maxHeartbeats 2000000 in
theorem Read_ok (b g : Nat) (xs : List Int) (w : World) (h : Vec w b g xs) (hn : xs.length ≤ 256) :
    Calls Try.prog 26 #[.pointer (some ⟨b, 0, none⟩)] w fun e w' => ∃ v, e = .returned v ∧ Kept [] w w' ∧ IsRow w' w.heap.size v xs := by
  go_enter Try.func26, Try.ntmps26
  go_wp2_with fail
  go_loopw [3, 4, 5, 6, 13] (fun v i _ _ _ wr => ∃ k : Nat, k ≤ xs.length ∧ i = .int .i64 k ∧ Kept [] w wr ∧ IsRow wr w.heap.size v (xs.take k)) (fun _ i _ _ _ _ => xs.length - (intOf i).toNat)
  case atStart => exact ⟨0, Nat.zero_le _, rfl, Kept.refl _ _, World.ownsRow_nil _ _ _ _⟩
  case round =>
    obtain ⟨k, hk, rfl, hK, hI⟩ := hrel
    have HL := hid (show (xs.take k).length = k by rw [List.length_take]; omega)
    have hv := h.kept hK (by simp) (by simp)
    have HK := hid hK
    have HI := hid hI
    clear hK hI
    go_wp2_with fail
    refine (Len_ok b g xs _ hv).mono ?_
    rintro e w1 ⟨rfl, rfl⟩
    by_cases hlt : k < xs.length
    · have d1 : decide ((k : Int) < xs.length) = true := by simpa using hlt
      have HN := hid (take_nth hlt)
      have T5 := hid (show (xs.take k).length + 1 ≤ maxLen by rw [HL.out]; unfold maxLen; omega)
      have T6 := hid (show ((xs.take k).length + 1) * 8 ≤ 140737488355328 by rw [HL.out]; omega)
      go_wp2_with fail
      refine (Get_ok b g xs k _ hv hlt hn).mono ?_
      rintro e w1 ⟨rfl, rfl⟩
      go_wp2_with (at_builtin; go_must (refine wpList_append_any rfl (.tmp 19) (.tmp 21) 49 rfl w.heap.size 36 (.int .u64 0) 1 8 Try.underlying49 info_u64' rfl (by decide) _ _ _ rfl (ownsRow_kept HI.out ((Kept.refl [] _).alloc _) (by simp)) _ _ _ [.int .u64 (nth xs k)] rfl rfl (fun h => nomatch h) news_alloc (by simp [Value.oneCell']) T5.out T6.out (Nat.le_trans HK.out.size (by simp)) ?_; intro v2 w2 ho2 hg2; have hk4 := hid ((HK.out.alloc _).grown hg2 (fun j e => .inr (HI.out.lt j e).1))))
      refine ⟨⟨k + 1, by omega, by go_num, hk4.out, ?_⟩, by simp [intOf]; omega⟩
      rw [HN.out]
      simpa [IsRow] using ho2
    · have d1 : decide ((k : Int) < xs.length) = false := by simp; omega
      have hke : xs.length = k := by omega
      have HT := hid (show xs.take k = xs by rw [← hke, List.take_length])
      clear hke
      go_wp2_with fail
      go_ret
      exact ⟨_, rfl, HK.out, by rw [HT.out] at HI; exact HI.out⟩

theorem nth_some {xs : List Int} {k : Nat} (h : k < xs.length) : xs[k]? = some (nth xs k) := by simp [nth, h]
theorem rows_differ {xs ys : List Int} {k : Nat} (hl : xs.length = ys.length) (h : nth xs k ≠ nth ys k) : xs ≠ ys := by rintro rfl; exact h rfl
theorem rows_same {xs ys : List Int} (hl : xs.length = ys.length) (h : xs.take xs.length = ys.take xs.length) : xs = ys := by
  rw [List.take_length, hl, List.take_length] at h; exact h

set_option maxRecDepth 100000 in
set_option maxHeartbeats 2000000 in
theorem Numbers_ok (B B2 : Nat) (v v2 : Value) (xs ys : List Int) (w : World) (h : IsRow w B v xs) (h2 : IsRow w B2 v2 ys) (hn : xs.length ≤ 1000000) (hn2 : ys.length ≤ 1000000) :
    Calls Try.prog 29 #[v, v2] w fun e w' => e = .returned (.bool (decide (xs = ys))) ∧ Kept [] w w' := by
  obtain ⟨a, c, rfl, hc, hnone, hsome⟩ := ownsRow_slice h
  obtain ⟨a2, c2, rfl, hc2, hnone2, hsome2⟩ := ownsRow_slice h2
  by_cases hl : xs.length = ys.length
  · have d0 : ((xs.length : Int) != ys.length) = false := by simp [hl]
    have HL := hid hl
    go_enter Try.func29, Try.ntmps29
    go_wp2_with fail
    go_loopw [5] (fun i wr => ∃ k : Nat, k ≤ xs.length ∧ i = .int .i64 k ∧ Kept [] w wr ∧ xs.take k = ys.take k) (fun i _ => xs.length - (intOf i).toNat)
    case atStart => exact ⟨0, Nat.zero_le _, rfl, Kept.refl _ _, by simp⟩
    case round =>
      obtain ⟨k, hk, rfl, hK, hI⟩ := hrel
      have HI := hid hI
      have HK := hid hK
      clear hI hK
      by_cases hlt : k < xs.length
      · have hlt2 : k < ys.length := by have := HL.out; omega
        have e1 : ∃ g, a = some ⟨g, 0, none⟩ ∧ wr.cell? ⟨g, k, none⟩ = some (.int .u64 (nth xs k)) := by
          cases a with
          | none => have := (hnone rfl).1; omega
          | some ad =>
            obtain ⟨g, rfl, _, _, hcell⟩ := hsome ad rfl
            exact ⟨g, rfl, HK.out.cell_some (hcell _ _ (by simp [nth_some hlt])) (by simp)⟩
        have e2 : ∃ g, a2 = some ⟨g, 0, none⟩ ∧ wr.cell? ⟨g, k, none⟩ = some (.int .u64 (nth ys k)) := by
          cases a2 with
          | none => have := (hnone2 rfl).1; omega
          | some ad =>
            obtain ⟨g, rfl, _, _, hcell⟩ := hsome2 ad rfl
            exact ⟨g, rfl, HK.out.cell_some (hcell _ _ (by simp [nth_some hlt2])) (by simp)⟩
        obtain ⟨g, rfl, q1⟩ := e1
        obtain ⟨g2, rfl, q2⟩ := e2
        clear hsome hsome2 hnone hnone2
        have d1 : decide ((k : Int) < xs.length) = true := by simpa using hlt
        go_wp2_with fail
        go_quiet (fail)
        have HKq := hid (HK.out.drewN nq)
        by_cases he : nth xs k = nth ys k
        · have d2 : (nth xs k != nth ys k) = false := by simp [he]
          have HN := hid (show xs.take (k + 1) = ys.take (k + 1) by rw [take_nth hlt, take_nth hlt2, HI.out, he])
          clear he
          go_wp2
          exact ⟨⟨k + 1, by omega, by go_num, HKq.out, HN.out⟩, by simp [intOf]; omega⟩
        · have d2 : (nth xs k != nth ys k) = true := by simp [he]
          have HD := hid (show decide (xs = ys) = false by simpa using rows_differ HL.out he)
          clear he
          go_wp2
          go_ret
          exact ⟨by rw [HD.out]; rfl, HKq.out⟩
      · have d1 : decide ((k : Int) < xs.length) = false := by simp; omega
        have hke : xs.length = k := by omega
        have HD := hid (show decide (xs = ys) = true by simpa using rows_same HL.out (by rw [hke]; exact HI.out))
        clear hke
        go_wp2
        go_ret
        exact ⟨by rw [HD.out]; rfl, HK.out⟩
  · have d0 : ((xs.length : Int) != ys.length) = true := by simp; omega
    have HD := hid (show decide (xs = ys) = false by simp; rintro rfl; exact hl rfl)
    go_enter Try.func29, Try.ntmps29
    go_wp2
    go_ret
    exact ⟨by rw [HD.out]; rfl, Kept.refl _ _⟩
theorem Numbers_true (B B2 : Nat) (v v2 : Value) (xs ys : List Int) (w : World) (h : IsRow w B v xs) (h2 : IsRow w B2 v2 ys) (hn : xs.length ≤ 1000000) (hxy : xs = ys) :
    Calls Try.prog 29 #[v, v2] w fun e w' => e = .returned (.bool true) ∧ Kept [] w w' :=
  (Numbers_ok B B2 v v2 xs ys w h h2 hn (by rw [← hxy]; exact hn)).mono fun e w' ⟨h1, h2⟩ => ⟨by rw [h1]; simp [hxy], h2⟩
end Go.Proofs.Ytedljgohmlilgaa
