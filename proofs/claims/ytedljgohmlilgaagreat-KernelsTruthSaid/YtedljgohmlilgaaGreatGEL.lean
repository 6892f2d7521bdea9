/-
  The walks of the reference's Less, put, Normal.
-/
import Derived.Test.YtedljgohmlilgaaGreatGBfs
import Derived.Test.YtedljgohmlilgaaGreatEL
import Derived.Deep.RegionWith
import Derived.Deep.DeepCutAuto
import Derived.Deep.QuietTactic
import Derived.BigQuiet
import Derived.Deep.DeepMust
namespace Go.Proofs.YtedljgohmlilgaaGreat
open Go.RowKit
set_option linter.unusedVariables false

set_option maxRecDepth 100000 in
set_option maxHeartbeats 1000000 in
theorem ELess_ok (x y : Nat × Nat) (w : World) : Calls Tryz.prog 39 #[.agg #[.int .i64 x.1, .int .i64 x.2], .agg #[.int .i64 y.1, .int .i64 y.2]] w fun e w' => e = .returned (.bool (eLess x y)) ∧ Kept [] w w' := by
  obtain ⟨a, b⟩ := x
  obtain ⟨c, d⟩ := y
  have hk : ∀ o o', Kept [] w ((w.alloc o).alloc o') := fun o o' => ((Kept.refl _ _).alloc _).alloc _
  by_cases h1 : a < c
  · have H := hid (show eLess (a, b) (c, d) = true by simp [eLess, h1])
    go_enter Tryz.func39, Tryz.ntmps39
    go_wp2
    go_ret
    exact ⟨by rw [H.out]; rfl, hk _ _⟩
  · have d1 : decide (a < c) = false := by simp; omega
    by_cases h2 : a = c
    · subst h2
      have H := hid (show eLess (a, b) (a, d) = decide (b < d) by simp [eLess])
      go_enter Tryz.func39, Tryz.ntmps39
      go_wp2
      go_ret
      exact ⟨by rw [H.out]; rfl, hk _ _⟩
    · have H := hid (show eLess (a, b) (c, d) = false by simp [eLess, h1, h2])
      have d2 : ((a : Int) == c) = false := by simp; omega
      clear h1
      go_enter Tryz.func39, Tryz.ntmps39
      go_wp2
      go_ret
      exact ⟨by rw [H.out]; rfl, hk _ _⟩
end Go.Proofs.YtedljgohmlilgaaGreat
/-
  The walk of the reference's put.
-/
namespace Go.Proofs.YtedljgohmlilgaaGreat
open Go.RowKit
set_option linter.unusedVariables false

theorem info_Edge : (Tryz.prog.info? 59).map (fun i => (i.zero, i.size, i.bytes)) = some (some (.agg #[.int .i64 0, .int .i64 0]), 2, 16) := by kernel_rfl

set_option maxRecDepth 100000 in
set_option maxHeartbeats 2000000 in
theorem put_ok (B : Nat) (l : Value) (es : List (Nat × Nat)) (x : Nat × Nat) (w : World) (h : IsEdges w 59 B l es) (hB : B ≤ w.heap.size) (hn : es.length ≤ 1000) :
    Calls Tryz.prog 25 #[l, .agg #[.int .i64 x.1, .int .i64 x.2], .bool true] w fun e w' => ∃ v, e = .returned v ∧ Kept [] w w' ∧ IsEdges w' 59 B v (putE es x) := by
  obtain ⟨a, c, rfl, hc, hnone, hsome⟩ := h.slice
  have hR := hid (show ∀ P : Prop, P → P from fun _ h => h)
  go_enter Tryz.func25, Tryz.ntmps25
  go_wp2_with fail
  go_loopw [7] (fun v wr => ∃ k : Nat, k ≤ es.length ∧ v = .int .i64 k ∧ Kept [] w wr ∧ wr.cell? ⟨w.heap.size, 0, none⟩ = some (.int .i64 x.1) ∧ wr.cell? ⟨w.heap.size, 1, none⟩ = some (.int .i64 x.2) ∧ spot es x es.length = spot es x k) (fun v _ => (intOf v).toNat)
  case atStart => exact ⟨es.length, Nat.le_refl _, rfl, (Kept.refl _ _).alloc _, by simp, by simp, rfl⟩
  case round =>
    obtain ⟨k, hk, rfl, hK, c1, c2, hsp⟩ := hrel
    cases k with
    | succ m =>
      have hal : ∃ ad, a = some ad := by
        cases a with
        | none => have := hnone rfl; omega
        | some ad => exact ⟨ad, rfl⟩
      obtain ⟨ad, rfl⟩ := hal
      obtain ⟨g, rfl, hg, hgl, hcell⟩ := hsome ad rfl
      have e1 := hK.cell_some (hcell _ _ (cellsOf_at es m (by omega)).1) (by simp)
      have e2 := hK.cell_some (hcell _ _ (cellsOf_at es m (by omega)).2) (by simp)
      have hcell' := hid hcell
      clear hcell
      have wm : IntKind.i64.wrap (m : Int) = m := IntWalk.i64_in _ (by omega)
      have hsp' := hid hsp
      clear hsp
      go_wp2_with fail
      go_cut [21] (fun s wx => s = .bool (eLess x (edge es m)) ∧ Kept [] wr wx)
      case first =>
        go_region_with (go_at_call 39; refine (ELess_ok x (edge es m) _).mono ?_; rintro e w' ⟨rfl, hk2⟩)
        all_goals (go_wp2_with fail; go_meet; exact ⟨rfl, (Kept.refl [] wr).drew.trans (by assumption)⟩)
      case rest =>
        obtain ⟨rfl, hk2⟩ := hcut
        generalize hb : eLess x (edge es m) = bb
        have hb' := hid hb
        clear hb
        cases bb
        · have hspk := hid (show spot es x es.length = m + 1 by rw [hsp'.out, spot, if_neg (by rw [hb'.out]; simp)])
          clear hsp' hb'
          have e1' := hk2.cell_some e1 (by simp)
          have e2' := hk2.cell_some e2 (by simp)
          have c1' := hk2.cell_some c1 (by simp)
          have c2' := hk2.cell_some c2 (by simp)
          have d1 : decide (0 < ((m + 1 : Nat) : Int)) = true := by simp
          by_cases heq : edge es m = x
          · have q1 : (((edge es m).1 : Int) == (x.1 : Int)) = true := by rw [heq]; simp
            have q2 : (((edge es m).2 : Int) == (x.2 : Int)) = true := by rw [heq]; simp
            have H := hid (show putE es x = es by simp [putE, hspk.out, heq])
            clear heq
            go_wp2_with fail
            go_quiet (fail)
            go_wp2
            go_ret
            exact ⟨_, rfl, (hK.trans hk2).drewN nq, by rw [H.out]; exact h.ext ((hK.trans hk2).drewN nq)⟩
          · have H := hid (show putE es x = putAt es x (m + 1) by simp [putE, hspk.out, heq])
            have heq' : (edge es m).1 ≠ x.1 ∨ (edge es m).2 ≠ x.2 := by
              rcases Decidable.em ((edge es m).1 = x.1) with h1 | h1
              · right; intro h2; exact heq (Prod.ext h1 h2)
              · exact .inl h1
            clear heq
            by_cases q1' : (edge es m).1 = x.1
            · have q2' : (edge es m).2 ≠ x.2 := heq'.resolve_left (fun h => h q1')
              have q1 : (((edge es m).1 : Int) == (x.1 : Int)) = true := by rw [q1']; simp
              have q2 : (((edge es m).2 : Int) == (x.2 : Int)) = false := by simp; omega
              clear q1' q2' heq'
              go_wp2_with fail
              go_quiet (fail)
              have S1 := hid (show (cellsOf (es.take (m + 1))).length = (m + 1) * 2 by rw [cellsOf_length, List.length_take]; omega)
              have S2 := hid (show (some ⟨g, 0, none⟩ : Option Addr) = none → m + 1 = 0 ∧ c = 0 by simp)
              have hkw := hid ((hK.trans hk2).drewN nq)
              have S4 := hid (cellsOf_one (es.take (m + 1)))
              have S5 := hid (show 0 + (m + 1) ≤ maxLen by unfold maxLen; omega)
              have S6 := hid (show (0 + (m + 1)) * 16 ≤ 140737488355328 by omega)
              have T1 := hid (show (cellsOf [x]).length = 1 * 2 by simp [cellsOf])
              have T4 := hid (cellsOf_one [x])
              have T5 := hid (show 0 + (m + 1) + 1 ≤ maxLen by unfold maxLen; omega)
              have T6 := hid (show (0 + (m + 1) + 1) * 16 ≤ 140737488355328 by omega)
              have U1 := hid (show (cellsOf (es.drop (m + 1))).length = (es.length - (m + 1)) * 2 by rw [cellsOf_length, List.length_drop])
              have U4 := hid (cellsOf_one (es.drop (m + 1)))
              have U5 := hid (show 0 + (m + 1) + 1 + (es.length - (m + 1)) ≤ maxLen by unfold maxLen; omega)
              have U6 := hid (show (0 + (m + 1) + 1 + (es.length - (m + 1))) * 16 ≤ 140737488355328 by omega)
              go_wp2_with (first
                | (at_builtin; refine wpList_append_any rfl (.const (.slice none 0 0)) (.tmp 41) 32 rfl w.heap.size 59 (.agg #[.int .i64 0, .int .i64 0]) 2 16 Tryz.underlying32 info_Edge rfl (by decide) (.slice none 0 0) 0 [] rfl (World.ownsRow_nil _ _ _ _) _ _ _ (cellsOf (es.take (m + 1))) rfl S1.out S2.out (take_cells hkw.out hcell'.out) S4.out S5.out S6.out hkw.out.size ?_; intro v1 w1 ho1 hg1; have hk3 := hid (hkw.out.grown hg1 (by simp [Value.ownBlock])); have hk3' := hid ((Kept.refl [] _).grown hg1 (by simp [Value.ownBlock])); have c1a := hk3'.out.cell_some c1' (by simp); have c2a := hk3'.out.cell_some c2' (by simp))
                | (at_builtin; refine wpList_append_any rfl (.tmp 43) (.tmp 45) 32 rfl w.heap.size 59 (.agg #[.int .i64 0, .int .i64 0]) 2 16 Tryz.underlying32 info_Edge rfl (by decide) _ _ _ rfl (ownsRow_kept ho1 ((Kept.refl [] _).alloc _) (by simp)) _ _ _ (cellsOf [x]) rfl T1.out (by simp) news_alloc T4.out T5.out T6.out (hk3.out.alloc _).size ?_; intro v2 w2 ho2 hg2; have hk4 := hid ((hk3.out.alloc _).grown hg2 (fun k e => .inr (ho1.lt k e).1)))
                | (at_builtin; refine wpList_append_any rfl (.tmp 47) (.tmp 50) 32 rfl w.heap.size 59 (.agg #[.int .i64 0, .int .i64 0]) 2 16 Tryz.underlying32 info_Edge rfl (by decide) _ _ _ rfl ho2 (if c = m + 1 then some ⟨g, 0, none⟩ else some ⟨g, (m + 1) * 2, none⟩) _ _ (cellsOf (es.drop (m + 1))) rfl U1.out if_none (drop_if hk4.out hcell'.out hc) U4.out U5.out U6.out hk4.out.size ?_; intro v3 w3 ho3 hg3; have hk5 := hid (hk4.out.grown hg3 (fun k e => .inr (ho2.lt k e).1))))
              all_goals
                go_ret
                exact ⟨_, rfl, hk5.out, by rw [H.out]; exact putAt_own ho3 (by omega) hB⟩
            · have q1 : (((edge es m).1 : Int) == (x.1 : Int)) = false := by simp; omega
              clear q1' heq'
              go_wp2_with fail
              go_quiet (fail)
              have S1 := hid (show (cellsOf (es.take (m + 1))).length = (m + 1) * 2 by rw [cellsOf_length, List.length_take]; omega)
              have S2 := hid (show (some ⟨g, 0, none⟩ : Option Addr) = none → m + 1 = 0 ∧ c = 0 by simp)
              have hkw := hid ((hK.trans hk2).drewN nq)
              have S4 := hid (cellsOf_one (es.take (m + 1)))
              have S5 := hid (show 0 + (m + 1) ≤ maxLen by unfold maxLen; omega)
              have S6 := hid (show (0 + (m + 1)) * 16 ≤ 140737488355328 by omega)
              have T1 := hid (show (cellsOf [x]).length = 1 * 2 by simp [cellsOf])
              have T4 := hid (cellsOf_one [x])
              have T5 := hid (show 0 + (m + 1) + 1 ≤ maxLen by unfold maxLen; omega)
              have T6 := hid (show (0 + (m + 1) + 1) * 16 ≤ 140737488355328 by omega)
              have U1 := hid (show (cellsOf (es.drop (m + 1))).length = (es.length - (m + 1)) * 2 by rw [cellsOf_length, List.length_drop])
              have U4 := hid (cellsOf_one (es.drop (m + 1)))
              have U5 := hid (show 0 + (m + 1) + 1 + (es.length - (m + 1)) ≤ maxLen by unfold maxLen; omega)
              have U6 := hid (show (0 + (m + 1) + 1 + (es.length - (m + 1))) * 16 ≤ 140737488355328 by omega)
              go_wp2_with (first
                | (at_builtin; refine wpList_append_any rfl (.const (.slice none 0 0)) (.tmp 41) 32 rfl w.heap.size 59 (.agg #[.int .i64 0, .int .i64 0]) 2 16 Tryz.underlying32 info_Edge rfl (by decide) (.slice none 0 0) 0 [] rfl (World.ownsRow_nil _ _ _ _) _ _ _ (cellsOf (es.take (m + 1))) rfl S1.out S2.out (take_cells hkw.out hcell'.out) S4.out S5.out S6.out hkw.out.size ?_; intro v1 w1 ho1 hg1; have hk3 := hid (hkw.out.grown hg1 (by simp [Value.ownBlock])); have hk3' := hid ((Kept.refl [] _).grown hg1 (by simp [Value.ownBlock])); have c1a := hk3'.out.cell_some c1' (by simp); have c2a := hk3'.out.cell_some c2' (by simp))
                | (at_builtin; refine wpList_append_any rfl (.tmp 43) (.tmp 45) 32 rfl w.heap.size 59 (.agg #[.int .i64 0, .int .i64 0]) 2 16 Tryz.underlying32 info_Edge rfl (by decide) _ _ _ rfl (ownsRow_kept ho1 ((Kept.refl [] _).alloc _) (by simp)) _ _ _ (cellsOf [x]) rfl T1.out (by simp) news_alloc T4.out T5.out T6.out (hk3.out.alloc _).size ?_; intro v2 w2 ho2 hg2; have hk4 := hid ((hk3.out.alloc _).grown hg2 (fun k e => .inr (ho1.lt k e).1)))
                | (at_builtin; refine wpList_append_any rfl (.tmp 47) (.tmp 50) 32 rfl w.heap.size 59 (.agg #[.int .i64 0, .int .i64 0]) 2 16 Tryz.underlying32 info_Edge rfl (by decide) _ _ _ rfl ho2 (if c = m + 1 then some ⟨g, 0, none⟩ else some ⟨g, (m + 1) * 2, none⟩) _ _ (cellsOf (es.drop (m + 1))) rfl U1.out if_none (drop_if hk4.out hcell'.out hc) U4.out U5.out U6.out hk4.out.size ?_; intro v3 w3 ho3 hg3; have hk5 := hid (hk4.out.grown hg3 (fun k e => .inr (ho2.lt k e).1))))
              all_goals
                go_ret
                exact ⟨_, rfl, hk5.out, by rw [H.out]; exact putAt_own ho3 (by omega) hB⟩
        · go_wp2
          exact ⟨⟨m, by omega, by simp, hK.trans hk2, hk2.cell_some c1 (by simp), hk2.cell_some c2 (by simp), by rw [hsp'.out, spot, if_pos hb'.out]⟩, by simp [intOf]⟩
    | zero =>
      have hspk := hid (show spot es x es.length = 0 by rw [hsp, spot])
      clear hsp
      have H := hid (show putE es x = putAt es x 0 by simp [putE, hspk.out])
      have hk2 : Kept [] wr wr := Kept.refl _ _
      have c1' := c1
      have c2' := c2
      cases a with
      | some ad =>
        obtain ⟨g, rfl, hg, hgl, hcell⟩ := hsome ad rfl
        have hcell' := hid hcell
        clear hcell hsome hnone
        have S1 := hid (show (cellsOf (es.take 0)).length = 0 * 2 by simp [cellsOf])
        have S4 := hid (cellsOf_one (es.take 0))
        have S5 := hid (show 0 + 0 ≤ maxLen by unfold maxLen; omega)
        have S6 := hid (show (0 + 0) * 16 ≤ 140737488355328 by omega)
        have T1 := hid (show (cellsOf [x]).length = 1 * 2 by simp [cellsOf])
        have T4 := hid (cellsOf_one [x])
        have T5 := hid (show 0 + 0 + 1 ≤ maxLen by unfold maxLen; omega)
        have T6 := hid (show (0 + 0 + 1) * 16 ≤ 140737488355328 by omega)
        have U1 := hid (show (cellsOf (es.drop 0)).length = es.length * 2 by simp [cellsOf_length])
        have U4 := hid (cellsOf_one (es.drop 0))
        have U5 := hid (show 0 + 0 + 1 + es.length ≤ maxLen by unfold maxLen; omega)
        have U6 := hid (show (0 + 0 + 1 + es.length) * 16 ≤ 140737488355328 by omega)
        go_wp2_with fail
        go_quiet (fail)
        obtain ⟨n1, rfl⟩ : ∃ n1, n1 = nq := ⟨_, rfl⟩
        go_wp2_with fail
        go_quiet (fail)
        have hkw := hid (hK.drewN (n1 + nq))
        have hkw' := hid ((Kept.refl [] wr).drewN (n1 + nq))
        replace c1' := hkw'.out.cell_some c1 (by simp)
        replace c2' := hkw'.out.cell_some c2 (by simp)
        go_wp2_with (first
          | (at_builtin; refine wpList_append_any rfl (.const (.slice none 0 0)) (.tmp 41) 32 rfl w.heap.size 59 (.agg #[.int .i64 0, .int .i64 0]) 2 16 Tryz.underlying32 info_Edge rfl (by decide) (.slice none 0 0) 0 [] rfl (World.ownsRow_nil _ _ _ _) _ _ _ (cellsOf (es.take 0)) rfl S1.out (fun h => nomatch h) (take_cells hkw.out hcell'.out) S4.out S5.out S6.out hkw.out.size ?_; intro v1 w1 ho1 hg1; have hk3 := hid (hkw.out.grown hg1 (by simp [Value.ownBlock])); have hk3' := hid ((Kept.refl [] _).grown hg1 (by simp [Value.ownBlock])); have c1a := hk3'.out.cell_some c1' (by simp); have c2a := hk3'.out.cell_some c2' (by simp))
          | (at_builtin; refine wpList_append_any rfl (.tmp 43) (.tmp 45) 32 rfl w.heap.size 59 (.agg #[.int .i64 0, .int .i64 0]) 2 16 Tryz.underlying32 info_Edge rfl (by decide) _ _ _ rfl (ownsRow_kept ho1 ((Kept.refl [] _).alloc _) (by simp)) _ _ _ (cellsOf [x]) rfl T1.out (fun h => nomatch h) news_alloc T4.out T5.out T6.out (hk3.out.alloc _).size ?_; intro v2 w2 ho2 hg2; have hk4 := hid ((hk3.out.alloc _).grown hg2 (fun k e => .inr (ho1.lt k e).1)))
          | (at_builtin; refine wpList_append_any rfl (.tmp 47) (.tmp 50) 32 rfl w.heap.size 59 (.agg #[.int .i64 0, .int .i64 0]) 2 16 Tryz.underlying32 info_Edge rfl (by decide) _ _ _ rfl ho2 (some ⟨g, 0, none⟩) es.length c (cellsOf (es.drop 0)) rfl U1.out (fun h => nomatch h) (drop_cells (k := 0) hk4.out hcell'.out) U4.out U5.out U6.out hk4.out.size ?_; intro v3 w3 ho3 hg3; have hk5 := hid (hk4.out.grown hg3 (fun k e => .inr (ho2.lt k e).1))))
        all_goals
          go_ret
          exact ⟨_, rfl, hk5.out, by rw [H.out]; exact putAt_own (K := 0) ho3 (by omega) hB⟩
      | none =>
        obtain ⟨hn0, rfl⟩ := hnone rfl
        have hes : es = [] := List.eq_nil_of_length_eq_zero hn0
        subst hes
        clear hn0 hsome hnone
        have S1 := hid (show (cellsOf (([] : List (Nat × Nat)).take 0)).length = 0 * 2 by simp [cellsOf])
        have S4 := hid (cellsOf_one (([] : List (Nat × Nat)).take 0))
        have S5 := hid (show 0 + 0 ≤ maxLen by unfold maxLen; omega)
        have S6 := hid (show (0 + 0) * 16 ≤ 140737488355328 by omega)
        have T1 := hid (show (cellsOf [x]).length = 1 * 2 by simp [cellsOf])
        have T4 := hid (cellsOf_one [x])
        have T5 := hid (show 0 + 0 + 1 ≤ maxLen by unfold maxLen; omega)
        have T6 := hid (show (0 + 0 + 1) * 16 ≤ 140737488355328 by omega)
        have U1 := hid (show (cellsOf (([] : List (Nat × Nat)).drop 0)).length = 0 * 2 by simp [cellsOf_length])
        have U4 := hid (cellsOf_one (([] : List (Nat × Nat)).drop 0))
        have U5 := hid (show 0 + 0 + 1 + 0 ≤ maxLen by unfold maxLen; omega)
        have U6 := hid (show (0 + 0 + 1 + 0) * 16 ≤ 140737488355328 by omega)
        go_wp2_with fail
        go_quiet (fail)
        obtain ⟨n1, rfl⟩ : ∃ n1, n1 = nq := ⟨_, rfl⟩
        go_wp2_with fail
        go_quiet (fail)
        have hkw := hid (hK.drewN (n1 + nq))
        have hkw' := hid ((Kept.refl [] wr).drewN (n1 + nq))
        replace c1' := hkw'.out.cell_some c1 (by simp)
        replace c2' := hkw'.out.cell_some c2 (by simp)
        go_wp2_with (first
          | (at_builtin; refine wpList_append_any rfl (.const (.slice none 0 0)) (.tmp 41) 32 rfl w.heap.size 59 (.agg #[.int .i64 0, .int .i64 0]) 2 16 Tryz.underlying32 info_Edge rfl (by decide) (.slice none 0 0) 0 [] rfl (World.ownsRow_nil _ _ _ _) _ _ _ (cellsOf (([] : List (Nat × Nat)).take 0)) rfl S1.out (fun _ => ⟨rfl, rfl⟩) (fun _ h => nomatch h) S4.out S5.out S6.out hkw.out.size ?_; intro v1 w1 ho1 hg1; have hk3 := hid (hkw.out.grown hg1 (by simp [Value.ownBlock])); have hk3' := hid ((Kept.refl [] _).grown hg1 (by simp [Value.ownBlock])); have c1a := hk3'.out.cell_some c1' (by simp); have c2a := hk3'.out.cell_some c2' (by simp))
          | (at_builtin; refine wpList_append_any rfl (.tmp 43) (.tmp 45) 32 rfl w.heap.size 59 (.agg #[.int .i64 0, .int .i64 0]) 2 16 Tryz.underlying32 info_Edge rfl (by decide) _ _ _ rfl (ownsRow_kept ho1 ((Kept.refl [] _).alloc _) (by simp)) _ _ _ (cellsOf [x]) rfl T1.out (fun h => nomatch h) news_alloc T4.out T5.out T6.out (hk3.out.alloc _).size ?_; intro v2 w2 ho2 hg2; have hk4 := hid ((hk3.out.alloc _).grown hg2 (fun k e => .inr (ho1.lt k e).1)))
          | (at_builtin; refine wpList_append_any rfl (.tmp 47) (.tmp 50) 32 rfl w.heap.size 59 (.agg #[.int .i64 0, .int .i64 0]) 2 16 Tryz.underlying32 info_Edge rfl (by decide) _ _ _ rfl ho2 none 0 0 (cellsOf (([] : List (Nat × Nat)).drop 0)) rfl U1.out (fun _ => ⟨rfl, rfl⟩) (fun _ h => nomatch h) U4.out U5.out U6.out hk4.out.size ?_; intro v3 w3 ho3 hg3; have hk5 := hid (hk4.out.grown hg3 (fun k e => .inr (ho2.lt k e).1))))
        all_goals
          go_ret
          exact ⟨_, rfl, hk5.out, by rw [H.out]; exact putAt_own (K := 0) ho3 (by omega) hB⟩
end Go.Proofs.YtedljgohmlilgaaGreat
/-
  The walk of the reference's Normal.
-/
namespace Go.Proofs.YtedljgohmlilgaaGreat
open Go.RowKit
set_option linter.unusedVariables false

/-- Edges among n vertices, none of which leads to where it begins. -/
def Good (n : Nat) (l : List (Nat × Nat)) : Prop := ∀ i, i < l.length → (edge l i).1 < n ∧ (edge l i).2 < n ∧ (edge l i).1 ≠ (edge l i).2

set_option maxRecDepth 100000 in
set_option maxHeartbeats 2000000 in
theorem Normal_ok (B n : Nat) (l : Value) (es : List (Nat × Nat)) (w : World) (h : IsEdges w 59 B l es) (hn : es.length ≤ 999) (h1 : 1 ≤ n) (h2 : n ≤ 256) (hg : Good n es) :
    Calls Tryz.prog 14 #[.int .i64 n, l] w fun e w' => ∃ v, e = .returned (.tuple #[v, .int .i64 0]) ∧ Kept [] w w' ∧ IsEdges w' 59 w.heap.size v (normE es) := by
  obtain ⟨a, c, rfl, hc, hnone, hsome⟩ := h.slice
  have HG := hid hg; clear hg
  go_enter Tryz.func14, Tryz.ntmps14
  go_wp2
  go_loopw [6, 7, 8] (fun v i _ wr => ∃ k : Nat, k ≤ es.length ∧ i = .int .i64 k ∧ Kept [] w wr ∧ IsEdges wr 59 w.heap.size v (normE (es.take k))) (fun _ i _ _ => es.length - (intOf i).toNat)
  case atStart => exact ⟨0, Nat.zero_le _, rfl, Kept.refl _ _, ⟨World.ownsRow_nil _ _ _ _⟩⟩
  case round =>
    obtain ⟨k, hk, rfl, hK, hE⟩ := hrel
    by_cases hlt : k < es.length
    · have hal : ∃ ad, a = some ad := by
        cases a with
        | none => have := hnone rfl; omega
        | some ad => exact ⟨ad, rfl⟩
      obtain ⟨ad, rfl⟩ := hal
      obtain ⟨g, rfl, hgb, hgl, hcell⟩ := hsome ad rfl
      have e1 := hK.cell_some (hcell _ _ (cellsOf_at es k hlt).1) (by simp)
      have e2 := hK.cell_some (hcell _ _ (cellsOf_at es k hlt).2) (by simp)
      have g1 := (HG.out k hlt).1
      have g2 := (HG.out k hlt).2.1
      have d1 : decide (((edge es k).1 : Int) < 0) = false := by simp
      have d2 : decide ((n : Int) ≤ ((edge es k).1 : Int)) = false := by simp; omega
      have d2' : decide (n ≤ (edge es k).1) = false := by simp; omega
      have d3 : decide (((edge es k).2 : Int) < 0) = false := by simp
      have d4 : decide ((n : Int) ≤ ((edge es k).2 : Int)) = false := by simp; omega
      have d4' : decide (n ≤ (edge es k).2) = false := by simp; omega
      have d5 : (((edge es k).1 : Int) == ((edge es k).2 : Int)) = false := by have := (HG.out k hlt).2.2; simp; omega
      have H := hid (normE_take es k hlt)
      have hl := hid (normE_length (es.take k))
      clear hcell
      go_wp2_with fail
      refine (put_ok w.heap.size _ (normE (es.take k)) (edge es k) _ (hE.ext ((Kept.refl _ _).alloc _)) (hK.alloc _).size (by have := hl.out; simp at this; omega)).mono ?_
      rintro e w1 ⟨v, rfl, hk1, hE1⟩
      go_wp2
      exact ⟨⟨k + 1, by omega, by go_num, (hK.alloc _).trans hk1, by rw [H.out]; exact hE1⟩, by simp [intOf]; omega⟩
    · obtain rfl : k = es.length := by omega
      rw [List.take_length] at hE
      have hl := hid (normE_length es)
      obtain ⟨a', c', rfl, hc', hnone', hsome'⟩ := hE.slice
      have d1 : decide ((4096 : Int) < ((normE es).length : Int)) = false := by have := hl.out; simp; omega
      go_wp2
      go_ret2
      exact ⟨_, rfl, hK, hE⟩
end Go.Proofs.YtedljgohmlilgaaGreat
/-
  The walk of Graph.Made.
-/
namespace Go.Proofs.YtedljgohmlilgaaGreat
open Go.RowKit
set_option linter.unusedVariables false

/-- Pairs of bytes in memory, read alone. -/
structure IsPairs (w : World) (a : Option Addr) (ps : List (Nat × Nat)) : Prop where
  cells : ∀ i, i < ps.length → ∃ b o, a = some ⟨b, o, none⟩ ∧ w.cell? ⟨b, o + i * 2, none⟩ = some (.int .u8 (edge ps i).1) ∧ w.cell? ⟨b, o + i * 2 + 1, none⟩ = some (.int .u8 (edge ps i).2)
theorem IsPairs.ext {w w' : World} {a : Option Addr} {ps : List (Nat × Nat)} (h : IsPairs w a ps) (k : Kept [] w w') : IsPairs w' a ps :=
  ⟨fun i hi => let ⟨b, o, ha, h1, h2⟩ := h.cells i hi; ⟨b, o, ha, k.cell_some h1 (by simp), k.cell_some h2 (by simp)⟩⟩

/-- The edges that pairs of numbers tell. -/
def told (n : Nat) (ps : List (Nat × Nat)) : List (Nat × Nat) := ps.filterMap fun p => if p.1 % n = p.2 % n then none else some (p.1 % n, p.2 % n)
theorem told_length (n : Nat) (ps : List (Nat × Nat)) : (told n ps).length ≤ ps.length := List.length_filterMap_le _ _
theorem told_take (n : Nat) (ps : List (Nat × Nat)) (k : Nat) (h : k < ps.length) : told n (ps.take (k + 1)) = told n (ps.take k) ++ (if (edge ps k).1 % n = (edge ps k).2 % n then [] else [((edge ps k).1 % n, (edge ps k).2 % n)]) := by
  unfold told
  rw [List.take_succ_eq_append_getElem h, List.filterMap_append, edge_eq h]
  congr 1
  simp only [List.filterMap_cons, List.filterMap_nil]
  split <;> rename_i e <;> split at e <;> simp_all
theorem told_good (n : Nat) (hn : 1 ≤ n) (ps : List (Nat × Nat)) : Good n (told n ps) := by
  intro i hi
  rw [edge_eq hi]
  have hm : (told n ps)[i] ∈ told n ps := List.getElem_mem hi
  generalize (told n ps)[i] = x at hm
  unfold told at hm
  obtain ⟨p, _, hp⟩ := List.mem_filterMap.1 hm
  split at hp
  · cases hp
  · cases hp
    exact ⟨Nat.mod_lt _ (by omega), Nat.mod_lt _ (by omega), by assumption⟩

set_option maxRecDepth 100000 in
set_option maxHeartbeats 2000000 in
theorem Made_ok (N : Nat) (a : Option Addr) (c : Nat) (ps : List (Nat × Nat)) (w : World) (h : IsPairs w a ps) (hN : N < 256) (hps : ∀ i, i < ps.length → (edge ps i).1 < 256 ∧ (edge ps i).2 < 256) (hn : ps.length ≤ 300) :
    Calls Tryz.prog 6 #[.agg #[.int .u8 N, .slice a ps.length c]] w fun e w' => ∃ v, e = .returned (.tuple #[.int .i64 ((1 + N % 60 : Nat) : Int), v]) ∧ Kept [] w w' ∧ IsEdges w' 59 w.heap.size v (normE (told (1 + N % 60) ps)) := by
  have HP := hid hps; clear hps
  obtain ⟨n, hnd⟩ : ∃ n, n = 1 + N % 60 := ⟨_, rfl⟩
  have hn1 : 1 ≤ n := by omega
  have hn2 : n ≤ 60 := by omega
  have ht := hid (show (1 + (N : Int) % 60) = n by omega)
  have HN := hid hnd
  rw [← hnd]; clear hnd
  go_enter Tryz.func6, Tryz.ntmps6
  go_wp2
  rw [ht.out]
  have hb0 := obj_alloc_new w (.cells #[.int .u8 N, .slice a ps.length c] 24 (0, 0))
  go_loopw [5, 6, 7, 8] (fun v i _ _ wr => ∃ k : Nat, k ≤ ps.length ∧ i = .int .i64 k ∧ Kept [] w wr ∧ wr.heap[w.heap.size]? = some (.cells #[.int .u8 N, .slice a ps.length c] 24 (0, 0)) ∧ ∃ m, m = (told n (ps.take k)).length ∧ IsEdges wr 59 (w.heap.size + 1) v (told n (ps.take k))) (fun _ i _ _ _ => ps.length - (intOf i).toNat)
  case atStart => exact ⟨0, Nat.zero_le _, rfl, (Kept.refl _ _).alloc _, hb0, _, rfl, ⟨World.ownsRow_nil _ _ _ _⟩⟩
  case round =>
    obtain ⟨k, hk, rfl, hK, hb, _, _, hE⟩ := hrel
    have c1 : wr.cell? ⟨w.heap.size, 1, none⟩ = some (.slice a ps.length c) := cell_of_obj hb 1
    by_cases hlt : k < ps.length
    · obtain ⟨b, o, rfl, q1, q2⟩ := (h.ext hK).cells k hlt
      have hP := HP.out k hlt
      obtain ⟨u, hu⟩ : ∃ u, u = (edge ps k).1 % n := ⟨_, rfl⟩
      obtain ⟨v, hv⟩ : ∃ v, v = (edge ps k).2 % n := ⟨_, rfl⟩
      have hu2 : u < n := by rw [hu]; exact Nat.mod_lt _ (by omega)
      have hv2 : v < n := by rw [hv]; exact Nat.mod_lt _ (by omega)
      have Hu := hid hu
      have Hv := hid hv
      have H := hid (told_take n ps k hlt)
      clear hu hv
      go_wp2_with fail
      go_quiet (fail)
      rw [show ((edge ps k).1 : Int) % n = u by rw [Hu.out]; simp, show ((edge ps k).2 : Int) % n = v by rw [Hv.out]; simp]
      have hKq := hid (hK.drewN nq)
      have hbq := hid (((Kept.refl [] wr).drewN nq).obj hb (by simp))
      have hEq := hid (hE.ext ((Kept.refl [] wr).drewN nq))
      clear hb hE
      by_cases huv : u = v
      · have d1 : ((u : Int) == v) = true := by simp [huv]
        have H2 := hid (show told n (ps.take (k + 1)) = told n (ps.take k) by rw [H.out, if_pos (by rw [← Hu.out, ← Hv.out]; exact huv), List.append_nil])
        clear huv
        go_wp2
        exact ⟨⟨k + 1, by omega, by go_num, hKq.out, hbq.out, _, rfl, by rw [H2.out]; exact hEq.out⟩, by simp [intOf]; omega⟩
      · have d1 : ((u : Int) == v) = false := by simp; omega
        have H2 := hid (show told n (ps.take (k + 1)) = told n (ps.take k) ++ [(u, v)] by rw [H.out, if_neg (by rw [← Hu.out, ← Hv.out]; exact huv), ← Hu.out, ← Hv.out])
        have hlen := hid (told_length n (ps.take k))
        have T1 := hid (show (cellsOf [(u, v)]).length = 1 * 2 by simp [cellsOf])
        have T4 := hid (cellsOf_one [(u, v)])
        have T5 := hid (show (told n (ps.take k)).length + 1 ≤ maxLen by have := hlen.out; unfold maxLen; simp at this; omega)
        have T6 := hid (show ((told n (ps.take k)).length + 1) * 16 ≤ 140737488355328 by have := hlen.out; simp at this; omega)
        clear huv
        go_wp2_with (at_builtin; go_must (refine wpList_append_any rfl (.tmp 44) (.tmp 48) 32 rfl (w.heap.size + 1) 59 (.agg #[.int .i64 0, .int .i64 0]) 2 16 Tryz.underlying32 info_Edge rfl (by decide) _ _ _ rfl (ownsRow_kept hEq.out.own ((Kept.refl [] _).alloc _) (by simp)) _ _ _ (cellsOf [(u, v)]) rfl T1.out (fun h => nomatch h) news_alloc T4.out T5.out T6.out (show w.heap.size + 1 ≤ _ by have := obj_lt hbq.out; simp at this ⊢; omega) ?_); intro v2 w2 ho2 hg2; have hk4 := hid ((hKq.out.alloc _).grown hg2 (fun k e => .inr (Nat.le_trans (Nat.le_succ _) (hEq.out.own.lt k e).1))); have hb4 := hid (grown_obj (ownsRow_kept hEq.out.own ((Kept.refl [] _).alloc _) (by simp)) hg2 (by omega) (obj_alloc_old hbq.out _)))
        exact ⟨⟨k + 1, by omega, by go_num, hk4.out, hb4.out, _, rfl, by rw [H2.out]; exact IsEdges.of_append ho2 rfl⟩, by simp [intOf]; omega⟩
    · obtain rfl : k = ps.length := by omega
      rw [List.take_length] at hE
      have hlen := hid (told_length n ps)
      go_wp2_with fail
      refine (Normal_ok (w.heap.size + 1) n _ (told n ps) wr hE (by have := hlen.out; omega) hn1 (by omega) (told_good n hn1 ps)).mono ?_
      rintro e w1 ⟨v, rfl, hk1, hE1⟩
      go_wp2
      go_ret2
      exact ⟨_, rfl, hK.trans hk1, ⟨ownsRow_base hE1.own hK.size⟩⟩
end Go.Proofs.YtedljgohmlilgaaGreat
