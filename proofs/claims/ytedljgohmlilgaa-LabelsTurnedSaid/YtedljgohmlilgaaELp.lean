/-
  The walk of the reference's put.
-/
import Derived.Test.YtedljgohmlilgaaELw
import Derived.Deep.RegionWith
import Derived.Deep.DeepCutAuto
namespace Go.Proofs.Ytedljgohmlilgaa
open Go.RowKit
set_option linter.unusedVariables false

theorem info_Edge : (Try.prog.info? 40).map (fun i => (i.zero, i.size, i.bytes)) = some (some (.agg #[.int .i64 0, .int .i64 0]), 2, 16) := by kernel_rfl

set_option maxRecDepth 100000 in
set_option maxHeartbeats 2000000 in
theorem put_ok (B : Nat) (l : Value) (es : List (Nat × Nat)) (x : Nat × Nat) (w : World) (h : IsEdges w 40 B l es) (hB : B ≤ w.heap.size) (hn : es.length ≤ 1000) :
    Calls Try.prog 80 #[l, .agg #[.int .i64 x.1, .int .i64 x.2], .bool true] w fun e w' => ∃ v, e = .returned v ∧ Kept [] w w' ∧ IsEdges w' 40 B v (putE es x) := by
  obtain ⟨a, c, rfl, hc, hnone, hsome⟩ := h.slice
  have hR := hid (show ∀ P : Prop, P → P from fun _ h => h)
  go_enter Try.func80, Try.ntmps80
  go_wp2_with fail
  go_loopw [7] (fun v wr => ∃ k : Nat, k ≤ es.length ∧ v = .int .i64 k ∧ Kept [] w wr ∧ wr.cell? ⟨w.heap.size, 0, none⟩ = some (.int .i64 x.1) ∧ wr.cell? ⟨w.heap.size, 1, none⟩ = some (.int .i64 x.2) ∧ spot es x es.length = spot es x k) (fun v _ => (intOf v).toNat)
  case atStart => exact ⟨es.length, Nat.le_refl _, rfl, (Kept.refl _ _).alloc _, by simp, by simp, rfl⟩
  case round =>
    obtain ⟨k, hk, rfl, hK, c1, c2, hsp⟩ := hrel
    cases k with
    | succ m =>
      have hal : ∃ ad, a = some ad := by
        cases a with
        | none => have := hnone rfl; omega
        | some ad => exact ⟨ad, rfl⟩
      obtain ⟨ad, rfl⟩ := hal
      obtain ⟨g, rfl, hg, hgl, hcell⟩ := hsome ad rfl
      have e1 := hK.cell_some (hcell _ _ (cellsOf_at es m (by omega)).1) (by simp)
      have e2 := hK.cell_some (hcell _ _ (cellsOf_at es m (by omega)).2) (by simp)
      have hcell' := hid hcell
      clear hcell
      have wm : IntKind.i64.wrap (m : Int) = m := IntWalk.i64_in _ (by omega)
      have hsp' := hid hsp
      clear hsp
      go_wp2_with fail
      go_cut [21] (fun s wx => s = .bool (eLess x (edge es m)) ∧ Kept [] wr wx)
      case first =>
        go_region_with (go_at_call 104; refine (ELess_ok x (edge es m) _).mono ?_; rintro e w' ⟨rfl, hk2⟩)
        all_goals (go_wp2_with fail; go_meet; exact ⟨rfl, (Kept.refl [] wr).drew.trans (by assumption)⟩)
      case rest =>
        obtain ⟨rfl, hk2⟩ := hcut
        generalize hb : eLess x (edge es m) = bb
        have hb' := hid hb
        clear hb
        cases bb
        · have hspk := hid (show spot es x es.length = m + 1 by rw [hsp'.out, spot, if_neg (by rw [hb'.out]; simp)])
          clear hsp' hb'
          have e1' := hk2.cell_some e1 (by simp)
          have e2' := hk2.cell_some e2 (by simp)
          have c1' := hk2.cell_some c1 (by simp)
          have c2' := hk2.cell_some c2 (by simp)
          have d1 : decide (0 < ((m + 1 : Nat) : Int)) = true := by simp
          by_cases heq : edge es m = x
          · have q1 : (((edge es m).1 : Int) == (x.1 : Int)) = true := by rw [heq]; simp
            have q2 : (((edge es m).2 : Int) == (x.2 : Int)) = true := by rw [heq]; simp
            have H := hid (show putE es x = es by simp [putE, hspk.out, heq])
            clear heq
            go_wp2_with fail
            go_quiet (fail)
            go_wp2
            go_ret
            exact ⟨_, rfl, (hK.trans hk2).drewN nq, by rw [H.out]; exact h.ext ((hK.trans hk2).drewN nq)⟩
          · have H := hid (show putE es x = putAt es x (m + 1) by simp [putE, hspk.out, heq])
            have heq' : (edge es m).1 ≠ x.1 ∨ (edge es m).2 ≠ x.2 := by
              rcases Decidable.em ((edge es m).1 = x.1) with h1 | h1
              · right; intro h2; exact heq (Prod.ext h1 h2)
              · exact .inl h1
            clear heq
            by_cases q1' : (edge es m).1 = x.1
            · have q2' : (edge es m).2 ≠ x.2 := heq'.resolve_left (fun h => h q1')
              have q1 : (((edge es m).1 : Int) == (x.1 : Int)) = true := by rw [q1']; simp
              have q2 : (((edge es m).2 : Int) == (x.2 : Int)) = false := by simp; omega
              clear q1' q2' heq'
              go_wp2_with fail
              go_quiet (fail)
              have S1 := hid (show (cellsOf (es.take (m + 1))).length = (m + 1) * 2 by rw [cellsOf_length, List.length_take]; omega)
              have S2 := hid (show (some ⟨g, 0, none⟩ : Option Addr) = none → m + 1 = 0 ∧ c = 0 by simp)
              have hkw := hid ((hK.trans hk2).drewN nq)
              have S4 := hid (cellsOf_one (es.take (m + 1)))
              have S5 := hid (show 0 + (m + 1) ≤ maxLen by unfold maxLen; omega)
              have S6 := hid (show (0 + (m + 1)) * 16 ≤ 140737488355328 by omega)
              have T1 := hid (show (cellsOf [x]).length = 1 * 2 by simp [cellsOf])
              have T4 := hid (cellsOf_one [x])
              have T5 := hid (show 0 + (m + 1) + 1 ≤ maxLen by unfold maxLen; omega)
              have T6 := hid (show (0 + (m + 1) + 1) * 16 ≤ 140737488355328 by omega)
              have U1 := hid (show (cellsOf (es.drop (m + 1))).length = (es.length - (m + 1)) * 2 by rw [cellsOf_length, List.length_drop])
              have U4 := hid (cellsOf_one (es.drop (m + 1)))
              have U5 := hid (show 0 + (m + 1) + 1 + (es.length - (m + 1)) ≤ maxLen by unfold maxLen; omega)
              have U6 := hid (show (0 + (m + 1) + 1 + (es.length - (m + 1))) * 16 ≤ 140737488355328 by omega)
              go_wp2_with (first
                | (at_builtin; refine wpList_append_any rfl (.const (.slice none 0 0)) (.tmp 41) 26 rfl w.heap.size 40 (.agg #[.int .i64 0, .int .i64 0]) 2 16 Try.underlying26 info_Edge rfl (by decide) (.slice none 0 0) 0 [] rfl (World.ownsRow_nil _ _ _ _) _ _ _ (cellsOf (es.take (m + 1))) rfl S1.out S2.out (take_cells hkw.out hcell'.out) S4.out S5.out S6.out hkw.out.size ?_; intro v1 w1 ho1 hg1; have hk3 := hid (hkw.out.grown hg1 (by simp [Value.ownBlock])); have hk3' := hid ((Kept.refl [] _).grown hg1 (by simp [Value.ownBlock])); have c1a := hk3'.out.cell_some c1' (by simp); have c2a := hk3'.out.cell_some c2' (by simp))
                | (at_builtin; refine wpList_append_any rfl (.tmp 43) (.tmp 45) 26 rfl w.heap.size 40 (.agg #[.int .i64 0, .int .i64 0]) 2 16 Try.underlying26 info_Edge rfl (by decide) _ _ _ rfl (ownsRow_kept ho1 ((Kept.refl [] _).alloc _) (by simp)) _ _ _ (cellsOf [x]) rfl T1.out (by simp) news_alloc T4.out T5.out T6.out (hk3.out.alloc _).size ?_; intro v2 w2 ho2 hg2; have hk4 := hid ((hk3.out.alloc _).grown hg2 (fun k e => .inr (ho1.lt k e).1)))
                | (at_builtin; refine wpList_append_any rfl (.tmp 47) (.tmp 50) 26 rfl w.heap.size 40 (.agg #[.int .i64 0, .int .i64 0]) 2 16 Try.underlying26 info_Edge rfl (by decide) _ _ _ rfl ho2 (if c = m + 1 then some ⟨g, 0, none⟩ else some ⟨g, (m + 1) * 2, none⟩) _ _ (cellsOf (es.drop (m + 1))) rfl U1.out if_none (drop_if hk4.out hcell'.out hc) U4.out U5.out U6.out hk4.out.size ?_; intro v3 w3 ho3 hg3; have hk5 := hid (hk4.out.grown hg3 (fun k e => .inr (ho2.lt k e).1))))
              all_goals
                go_ret
                exact ⟨_, rfl, hk5.out, by rw [H.out]; exact putAt_own ho3 (by omega) hB⟩
            · have q1 : (((edge es m).1 : Int) == (x.1 : Int)) = false := by simp; omega
              clear q1' heq'
              go_wp2_with fail
              go_quiet (fail)
              have S1 := hid (show (cellsOf (es.take (m + 1))).length = (m + 1) * 2 by rw [cellsOf_length, List.length_take]; omega)
              have S2 := hid (show (some ⟨g, 0, none⟩ : Option Addr) = none → m + 1 = 0 ∧ c = 0 by simp)
              have hkw := hid ((hK.trans hk2).drewN nq)
              have S4 := hid (cellsOf_one (es.take (m + 1)))
              have S5 := hid (show 0 + (m + 1) ≤ maxLen by unfold maxLen; omega)
              have S6 := hid (show (0 + (m + 1)) * 16 ≤ 140737488355328 by omega)
              have T1 := hid (show (cellsOf [x]).length = 1 * 2 by simp [cellsOf])
              have T4 := hid (cellsOf_one [x])
              have T5 := hid (show 0 + (m + 1) + 1 ≤ maxLen by unfold maxLen; omega)
              have T6 := hid (show (0 + (m + 1) + 1) * 16 ≤ 140737488355328 by omega)
              have U1 := hid (show (cellsOf (es.drop (m + 1))).length = (es.length - (m + 1)) * 2 by rw [cellsOf_length, List.length_drop])
              have U4 := hid (cellsOf_one (es.drop (m + 1)))
              have U5 := hid (show 0 + (m + 1) + 1 + (es.length - (m + 1)) ≤ maxLen by unfold maxLen; omega)
              have U6 := hid (show (0 + (m + 1) + 1 + (es.length - (m + 1))) * 16 ≤ 140737488355328 by omega)
              go_wp2_with (first
                | (at_builtin; refine wpList_append_any rfl (.const (.slice none 0 0)) (.tmp 41) 26 rfl w.heap.size 40 (.agg #[.int .i64 0, .int .i64 0]) 2 16 Try.underlying26 info_Edge rfl (by decide) (.slice none 0 0) 0 [] rfl (World.ownsRow_nil _ _ _ _) _ _ _ (cellsOf (es.take (m + 1))) rfl S1.out S2.out (take_cells hkw.out hcell'.out) S4.out S5.out S6.out hkw.out.size ?_; intro v1 w1 ho1 hg1; have hk3 := hid (hkw.out.grown hg1 (by simp [Value.ownBlock])); have hk3' := hid ((Kept.refl [] _).grown hg1 (by simp [Value.ownBlock])); have c1a := hk3'.out.cell_some c1' (by simp); have c2a := hk3'.out.cell_some c2' (by simp))
                | (at_builtin; refine wpList_append_any rfl (.tmp 43) (.tmp 45) 26 rfl w.heap.size 40 (.agg #[.int .i64 0, .int .i64 0]) 2 16 Try.underlying26 info_Edge rfl (by decide) _ _ _ rfl (ownsRow_kept ho1 ((Kept.refl [] _).alloc _) (by simp)) _ _ _ (cellsOf [x]) rfl T1.out (by simp) news_alloc T4.out T5.out T6.out (hk3.out.alloc _).size ?_; intro v2 w2 ho2 hg2; have hk4 := hid ((hk3.out.alloc _).grown hg2 (fun k e => .inr (ho1.lt k e).1)))
                | (at_builtin; refine wpList_append_any rfl (.tmp 47) (.tmp 50) 26 rfl w.heap.size 40 (.agg #[.int .i64 0, .int .i64 0]) 2 16 Try.underlying26 info_Edge rfl (by decide) _ _ _ rfl ho2 (if c = m + 1 then some ⟨g, 0, none⟩ else some ⟨g, (m + 1) * 2, none⟩) _ _ (cellsOf (es.drop (m + 1))) rfl U1.out if_none (drop_if hk4.out hcell'.out hc) U4.out U5.out U6.out hk4.out.size ?_; intro v3 w3 ho3 hg3; have hk5 := hid (hk4.out.grown hg3 (fun k e => .inr (ho2.lt k e).1))))
              all_goals
                go_ret
                exact ⟨_, rfl, hk5.out, by rw [H.out]; exact putAt_own ho3 (by omega) hB⟩
        · go_wp2
          exact ⟨⟨m, by omega, by simp, hK.trans hk2, hk2.cell_some c1 (by simp), hk2.cell_some c2 (by simp), by rw [hsp'.out, spot, if_pos hb'.out]⟩, by simp [intOf]⟩
    | zero =>
      have hspk := hid (show spot es x es.length = 0 by rw [hsp, spot])
      clear hsp
      have H := hid (show putE es x = putAt es x 0 by simp [putE, hspk.out])
      have hk2 : Kept [] wr wr := Kept.refl _ _
      have c1' := c1
      have c2' := c2
      cases a with
      | some ad =>
        obtain ⟨g, rfl, hg, hgl, hcell⟩ := hsome ad rfl
        have hcell' := hid hcell
        clear hcell hsome hnone
        have S1 := hid (show (cellsOf (es.take 0)).length = 0 * 2 by simp [cellsOf])
        have S4 := hid (cellsOf_one (es.take 0))
        have S5 := hid (show 0 + 0 ≤ maxLen by unfold maxLen; omega)
        have S6 := hid (show (0 + 0) * 16 ≤ 140737488355328 by omega)
        have T1 := hid (show (cellsOf [x]).length = 1 * 2 by simp [cellsOf])
        have T4 := hid (cellsOf_one [x])
        have T5 := hid (show 0 + 0 + 1 ≤ maxLen by unfold maxLen; omega)
        have T6 := hid (show (0 + 0 + 1) * 16 ≤ 140737488355328 by omega)
        have U1 := hid (show (cellsOf (es.drop 0)).length = es.length * 2 by simp [cellsOf_length])
        have U4 := hid (cellsOf_one (es.drop 0))
        have U5 := hid (show 0 + 0 + 1 + es.length ≤ maxLen by unfold maxLen; omega)
        have U6 := hid (show (0 + 0 + 1 + es.length) * 16 ≤ 140737488355328 by omega)
        go_wp2_with fail
        go_quiet (fail)
        obtain ⟨n1, rfl⟩ : ∃ n1, n1 = nq := ⟨_, rfl⟩
        go_wp2_with fail
        go_quiet (fail)
        have hkw := hid (hK.drewN (n1 + nq))
        have hkw' := hid ((Kept.refl [] wr).drewN (n1 + nq))
        replace c1' := hkw'.out.cell_some c1 (by simp)
        replace c2' := hkw'.out.cell_some c2 (by simp)
        go_wp2_with (first
          | (at_builtin; refine wpList_append_any rfl (.const (.slice none 0 0)) (.tmp 41) 26 rfl w.heap.size 40 (.agg #[.int .i64 0, .int .i64 0]) 2 16 Try.underlying26 info_Edge rfl (by decide) (.slice none 0 0) 0 [] rfl (World.ownsRow_nil _ _ _ _) _ _ _ (cellsOf (es.take 0)) rfl S1.out (fun h => nomatch h) (take_cells hkw.out hcell'.out) S4.out S5.out S6.out hkw.out.size ?_; intro v1 w1 ho1 hg1; have hk3 := hid (hkw.out.grown hg1 (by simp [Value.ownBlock])); have hk3' := hid ((Kept.refl [] _).grown hg1 (by simp [Value.ownBlock])); have c1a := hk3'.out.cell_some c1' (by simp); have c2a := hk3'.out.cell_some c2' (by simp))
          | (at_builtin; refine wpList_append_any rfl (.tmp 43) (.tmp 45) 26 rfl w.heap.size 40 (.agg #[.int .i64 0, .int .i64 0]) 2 16 Try.underlying26 info_Edge rfl (by decide) _ _ _ rfl (ownsRow_kept ho1 ((Kept.refl [] _).alloc _) (by simp)) _ _ _ (cellsOf [x]) rfl T1.out (fun h => nomatch h) news_alloc T4.out T5.out T6.out (hk3.out.alloc _).size ?_; intro v2 w2 ho2 hg2; have hk4 := hid ((hk3.out.alloc _).grown hg2 (fun k e => .inr (ho1.lt k e).1)))
          | (at_builtin; refine wpList_append_any rfl (.tmp 47) (.tmp 50) 26 rfl w.heap.size 40 (.agg #[.int .i64 0, .int .i64 0]) 2 16 Try.underlying26 info_Edge rfl (by decide) _ _ _ rfl ho2 (some ⟨g, 0, none⟩) es.length c (cellsOf (es.drop 0)) rfl U1.out (fun h => nomatch h) (drop_cells (k := 0) hk4.out hcell'.out) U4.out U5.out U6.out hk4.out.size ?_; intro v3 w3 ho3 hg3; have hk5 := hid (hk4.out.grown hg3 (fun k e => .inr (ho2.lt k e).1))))
        all_goals
          go_ret
          exact ⟨_, rfl, hk5.out, by rw [H.out]; exact putAt_own (K := 0) ho3 (by omega) hB⟩
      | none =>
        obtain ⟨hn0, rfl⟩ := hnone rfl
        have hes : es = [] := List.eq_nil_of_length_eq_zero hn0
        subst hes
        clear hn0 hsome hnone
        have S1 := hid (show (cellsOf (([] : List (Nat × Nat)).take 0)).length = 0 * 2 by simp [cellsOf])
        have S4 := hid (cellsOf_one (([] : List (Nat × Nat)).take 0))
        have S5 := hid (show 0 + 0 ≤ maxLen by unfold maxLen; omega)
        have S6 := hid (show (0 + 0) * 16 ≤ 140737488355328 by omega)
        have T1 := hid (show (cellsOf [x]).length = 1 * 2 by simp [cellsOf])
        have T4 := hid (cellsOf_one [x])
        have T5 := hid (show 0 + 0 + 1 ≤ maxLen by unfold maxLen; omega)
        have T6 := hid (show (0 + 0 + 1) * 16 ≤ 140737488355328 by omega)
        have U1 := hid (show (cellsOf (([] : List (Nat × Nat)).drop 0)).length = 0 * 2 by simp [cellsOf_length])
        have U4 := hid (cellsOf_one (([] : List (Nat × Nat)).drop 0))
        have U5 := hid (show 0 + 0 + 1 + 0 ≤ maxLen by unfold maxLen; omega)
        have U6 := hid (show (0 + 0 + 1 + 0) * 16 ≤ 140737488355328 by omega)
        go_wp2_with fail
        go_quiet (fail)
        obtain ⟨n1, rfl⟩ : ∃ n1, n1 = nq := ⟨_, rfl⟩
        go_wp2_with fail
        go_quiet (fail)
        have hkw := hid (hK.drewN (n1 + nq))
        have hkw' := hid ((Kept.refl [] wr).drewN (n1 + nq))
        replace c1' := hkw'.out.cell_some c1 (by simp)
        replace c2' := hkw'.out.cell_some c2 (by simp)
        go_wp2_with (first
          | (at_builtin; refine wpList_append_any rfl (.const (.slice none 0 0)) (.tmp 41) 26 rfl w.heap.size 40 (.agg #[.int .i64 0, .int .i64 0]) 2 16 Try.underlying26 info_Edge rfl (by decide) (.slice none 0 0) 0 [] rfl (World.ownsRow_nil _ _ _ _) _ _ _ (cellsOf (([] : List (Nat × Nat)).take 0)) rfl S1.out (fun _ => ⟨rfl, rfl⟩) (fun _ h => nomatch h) S4.out S5.out S6.out hkw.out.size ?_; intro v1 w1 ho1 hg1; have hk3 := hid (hkw.out.grown hg1 (by simp [Value.ownBlock])); have hk3' := hid ((Kept.refl [] _).grown hg1 (by simp [Value.ownBlock])); have c1a := hk3'.out.cell_some c1' (by simp); have c2a := hk3'.out.cell_some c2' (by simp))
          | (at_builtin; refine wpList_append_any rfl (.tmp 43) (.tmp 45) 26 rfl w.heap.size 40 (.agg #[.int .i64 0, .int .i64 0]) 2 16 Try.underlying26 info_Edge rfl (by decide) _ _ _ rfl (ownsRow_kept ho1 ((Kept.refl [] _).alloc _) (by simp)) _ _ _ (cellsOf [x]) rfl T1.out (fun h => nomatch h) news_alloc T4.out T5.out T6.out (hk3.out.alloc _).size ?_; intro v2 w2 ho2 hg2; have hk4 := hid ((hk3.out.alloc _).grown hg2 (fun k e => .inr (ho1.lt k e).1)))
          | (at_builtin; refine wpList_append_any rfl (.tmp 47) (.tmp 50) 26 rfl w.heap.size 40 (.agg #[.int .i64 0, .int .i64 0]) 2 16 Try.underlying26 info_Edge rfl (by decide) _ _ _ rfl ho2 none 0 0 (cellsOf (([] : List (Nat × Nat)).drop 0)) rfl U1.out (fun _ => ⟨rfl, rfl⟩) (fun _ h => nomatch h) U4.out U5.out U6.out hk4.out.size ?_; intro v3 w3 ho3 hg3; have hk5 := hid (hk4.out.grown hg3 (fun k e => .inr (ho2.lt k e).1))))
        all_goals
          go_ret
          exact ⟨_, rfl, hk5.out, by rw [H.out]; exact putAt_own (K := 0) ho3 (by omega) hB⟩
end Go.Proofs.Ytedljgohmlilgaa
