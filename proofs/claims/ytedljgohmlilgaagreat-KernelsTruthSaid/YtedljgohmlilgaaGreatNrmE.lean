/-
  edges.Normal's helpers: cmp.Or, by, within, may, the closure; slices.ContainsFunc, SortFunc, Compact, Equal over edges that rise.
-/
import Derived.Test.YtedljgohmlilgaaGreatSeqE
import Derived.Test.YtedljgohmlilgaaGreatShelf
import Derived.Test.YtedljgohmlilgaaGreatShelfT
import Derived.Test.YtedljgohmlilgaaGreatGNorm
import Derived.Laws.StructEq
import Derived.Deep.RegionHeld3
import Derived.Deep.RegionWith
import Derived.RowKit3
import Derived.Deep.DeepCutAuto
import Derived.BigQuiet
import Derived.Deep.QuietTactic
namespace Go.Proofs.YtedljgohmlilgaaGreat
open Go.RowKit Go.Shelf Go.Sort
set_option linter.unusedVariables false
set_option linter.unusedSimpArgs false

def orI (x y : Int) : Int := if x = 0 then y else x
def eC (x y : Nat × Nat) : Int := orI (Lib.compareInt x.1 y.1) (Lib.compareInt x.2 y.2)

set_option maxRecDepth 100000 in
set_option maxHeartbeats 1000000 in
theorem cmpOr_ok (g : Nat) (x y : Int) (w : World) (h0 : w.cell? ⟨g, 0, none⟩ = some (.int .i64 x)) (h1 : w.cell? ⟨g, 1, none⟩ = some (.int .i64 y)) :
    Calls Tryz.prog 109 #[.slice (some ⟨g, 0, none⟩) 2 2] w fun e w' => e = .returned (.int .i64 (orI x y)) ∧ w' = w := by
  obtain ⟨r, hr⟩ : ∃ r, orI x y = r := ⟨_, rfl⟩
  rw [hr]
  have HR := hid hr
  clear hr
  have hc : ∀ k, k < 2 → w.cell? ⟨g, k, none⟩ = some (.int .i64 (if k = 0 then x else y)) := fun k hk => by
    rcases Nat.lt_or_ge k 1 with h | h
    · obtain rfl : k = 0 := by omega
      exact h0
    · obtain rfl : k = 1 := by omega
      exact h1
  clear h0 h1
  go_enter Tryz.func109, Tryz.ntmps109
  go_wp2
  go_loop [5, 8] (fun _ v => ∃ k : Nat, k ≤ 2 ∧ v = .int .i64 k ∧ ∀ j, j < k → (if j = 0 then x else y) = 0) (fun _ v => 2 - (intOf v).toNat)
  case atStart => exact ⟨0, by omega, rfl, by intro j hj; omega⟩
  case round =>
    obtain ⟨k, hk, rfl, hz⟩ := hrel
    by_cases hlt : k < 2
    · have hck := hc k hlt
      obtain ⟨z, hz2⟩ : ∃ z, (if k = 0 then x else y) = z := ⟨_, rfl⟩
      rw [hz2] at hck
      have HZ := hid hz2
      have HA := hid hz
      clear hz2 hz hc
      by_cases hz0 : z = 0
      · have d : (z != 0) = false := by simp [hz0]
        have H0 := hid hz0
        clear hz0
        go_wp2
        exact ⟨⟨k + 1, by omega, by go_num, fun j hj => by
          rcases Nat.lt_or_ge j k with h | h
          · exact HA.out j h
          · obtain rfl : j = k := by omega
            rw [HZ.out]; exact H0.out⟩, by simp [intOf]; omega⟩
      · have d : (z != 0) = true := by simp [hz0]
        have H0 := hid hz0
        clear hz0
        have HE := hid (show z = r by
          have hr := HR.out
          have hz := HZ.out
          unfold orI at hr
          rcases Nat.lt_or_ge k 1 with h | h
          · obtain rfl : k = 0 := by omega
            simp at hz
            rw [if_neg (by rw [hz]; exact H0.out)] at hr
            rw [← hr, hz]
          · obtain rfl : k = 1 := by omega
            have := HA.out 0 (by omega)
            simp at this hz
            rw [if_pos this] at hr
            rw [← hr, hz])
        go_wp2
        go_ret
        exact ⟨by rw [← HE.out]; rfl, rfl⟩
    · obtain rfl : k = 2 := by omega
      have HA := hid hz
      clear hz
      have HE := hid (show 0 = r by
        have h0 := HA.out 0 (by omega)
        have h1 := HA.out 1 (by omega)
        simp at h0 h1
        have hr := HR.out
        unfold orI at hr
        rw [if_pos h0, h1] at hr
        exact hr)
      go_wp2
      go_ret
      exact ⟨by rw [← HE.out]; rfl, rfl⟩

set_option maxRecDepth 100000 in
set_option maxHeartbeats 4000000 in
theorem eby_ok (x y : Nat × Nat) (w : World) :
    Calls Tryz.prog 74 #[.agg #[.int .i64 (x.1 : Int), .int .i64 (x.2 : Int)], .agg #[.int .i64 (y.1 : Int), .int .i64 (y.2 : Int)]] w fun e w' => e = .returned (.int .i64 (eC x y)) ∧ ∃ q os, w' = grow (w.drewN q) os := by
  obtain ⟨cmp, hcmp⟩ : ∃ cmp, Lib.compareInt = cmp := ⟨_, rfl⟩
  have hcp := fun a b W => Tryz.cmp_Compare_int a b W
  obtain ⟨r, hr⟩ : ∃ r, eC x y = r := ⟨_, rfl⟩
  rw [hr]
  unfold eC at hr
  rw [hcmp] at hcp hr
  clear hcmp
  generalize (x.1 : Int) = x1 at *
  generalize (x.2 : Int) = x2 at *
  generalize (y.1 : Int) = y1 at *
  generalize (y.2 : Int) = y2 at *
  have HR := hid hr
  clear hr
  go_enter Tryz.func74, Tryz.ntmps74
  go_wp2_with fail
  obtain ⟨W, hW⟩ : ∃ W, W = (w.alloc (.cells #[.int .i64 x1, .int .i64 x2] 59)).alloc (.cells #[.int .i64 y1, .int .i64 y2] 59) := ⟨_, rfl⟩
  have a0 : W.cell? ⟨w.heap.size, 0, none⟩ = some (.int .i64 x1) := by rw [hW]; exact cell_of_obj (obj_alloc_old (new_obj rfl) _) 0
  have a1 : W.cell? ⟨w.heap.size, 1, none⟩ = some (.int .i64 x2) := by rw [hW]; exact cell_of_obj (obj_alloc_old (new_obj rfl) _) 1
  have b0 : W.cell? ⟨w.heap.size + 1, 0, none⟩ = some (.int .i64 y1) := by rw [hW]; exact cell_of_obj (new_obj (by simp)) 0
  have b1 : W.cell? ⟨w.heap.size + 1, 1, none⟩ = some (.int .i64 y2) := by rw [hW]; exact cell_of_obj (new_obj (by simp)) 1
  have HW := hid (show ∃ os, W = grow w os from ⟨_, by rw [hW, alloc_eq_grow, alloc_eq_grow, grow_grow]⟩)
  have hsz : w.heap.size + 1 < W.heap.size := by rw [hW]; simp
  rw [← hW]
  clear hW
  go_region_held3 (fun w' => w'.cell? ⟨w.heap.size, 0, none⟩ = some (.int .i64 x1) ∧ w'.cell? ⟨w.heap.size, 1, none⟩ = some (.int .i64 x2) ∧ w'.cell? ⟨w.heap.size + 1, 0, none⟩ = some (.int .i64 y1) ∧ w'.cell? ⟨w.heap.size + 1, 1, none⟩ = some (.int .i64 y2))
    (first
      | exact ⟨a0, a1, b0, b1⟩
      | exact ⟨old_cell _ a0, old_cell _ a1, old_cell _ b0, old_cell _ b1⟩)
    (first
      | (go_at_call 110; refine (hcp _ _ _).mono ?_; rintro e w2 ⟨rfl, rfl⟩)
      | (go_at_call 109; refine (cmpOr_ok W.heap.size (cmp x1 y1) (cmp x2 y2) _ (cell_of_obj (new_obj rfl) 0) (cell_of_obj (new_obj rfl) 1)).mono ?_; rintro e w4 ⟨rfl, rfl⟩))
  all_goals (
    go_wp2_with fail
    go_ret
    obtain ⟨os, rfl⟩ := HW.out
    have hh : ∀ o, ((grow w os).alloc o).drew = grow (w.drewN 1) (os ++ #[o]) := fun o => by rw [alloc_eq_grow, grow_grow]; rfl
    exact ⟨by rw [HR.out]; rfl, 1, _, hh _⟩)

theorem compareInt_neg (x y : Int) : Lib.compareInt x y < 0 ↔ x < y := by
  unfold Lib.compareInt
  by_cases h1 : x < y
  · simp [h1]
  · by_cases h2 : y < x <;> simp [h1, h2]
theorem compareInt_zero (x y : Int) : Lib.compareInt x y = 0 ↔ x = y := by
  unfold Lib.compareInt
  by_cases h1 : x < y
  · simp [h1]; omega
  · by_cases h2 : y < x
    · simp [h1, h2]; omega
    · simp [h1, h2]; omega
theorem lt_eC (x y : Nat × Nat) : ltOf eC x y = eLess x y := by
  unfold ltOf eC orI
  rw [Bool.eq_iff_iff, eLess_iff]
  unfold eLt
  simp only [decide_eq_true_eq]
  by_cases h : Lib.compareInt (x.1 : Int) y.1 = 0
  · rw [if_pos h, compareInt_neg]
    rw [compareInt_zero] at h
    omega
  · rw [if_neg h, compareInt_neg]
    rw [compareInt_zero] at h
    omega
theorem swo_eC : SWO (ltOf eC) where
  irrefl x := by rw [lt_eC, Bool.eq_false_iff, ne_eq, eLess_iff]; unfold eLt; omega
  trans x y z h1 h2 := by
    rw [lt_eC, eLess_iff] at *
    exact h1.trans h2
  ntrans x y z h1 h2 := by
    rw [lt_eC, Bool.eq_false_iff, ne_eq, eLess_iff] at *
    unfold eLt at *
    omega
theorem tot_eC (x y : Nat × Nat) (h1 : ltOf eC x y = false) (h2 : ltOf eC y x = false) : x = y := by
  rw [lt_eC, Bool.eq_false_iff, ne_eq, eLess_iff] at h1 h2
  unfold eLt at h1 h2
  refine Prod.ext ?_ ?_ <;> omega

def encL (x : Nat × Nat) : List Value := [.int .i64 (x.1 : Int), .int .i64 (x.2 : Int)]

theorem cellsOf_get {es : List (Nat × Nat)} {j i : Nat} {v : Value} (hj : j < es.length) (h : (encL es[j]!)[i]? = some v) : (cellsOf es)[j * 2 + i]? = some v := by
  have hc := cellsOf_at es j hj
  have he : es[j]! = edge es j := by rw [edge_eq hj, getElem!_pos es j hj]
  rw [he] at h
  match i, h with
  | 0, h => simp [encL] at h; rw [← h]; exact hc.1
  | 1, h => simp [encL] at h; rw [← h]; exact hc.2
  | i + 2, h => simp [encL] at h

set_option maxRecDepth 100000 in
set_option maxHeartbeats 1000000 in
theorem ewithin_ok (n v : Nat) (w : World) : Calls Tryz.prog 68 #[.int .i64 n, .int .i64 v] w fun e w' => e = .returned (.bool (decide (v < n))) ∧ w' = w := by
  have d1 : decide ((0 : Int) ≤ v) = true := by simp
  go_enter Tryz.func68, Tryz.ntmps68
  go_wp2
  go_ret
  exact ⟨by simp, rfl⟩
set_option maxRecDepth 100000 in
set_option maxHeartbeats 1000000 in
theorem emay_ok (n : Nat) (w : World) (h1 : 1 ≤ n) (h2 : n ≤ 256) : Calls Tryz.prog 69 #[.int .i64 n] w fun e w' => e = .returned (.bool true) ∧ w' = w := by
  have d1 : decide ((1 : Int) ≤ n) = true := by simp; omega
  have d2 : decide ((n : Int) ≤ 256) = true := by simp; omega
  go_enter Tryz.func69, Tryz.ntmps69
  go_wp2
  go_ret
  exact ⟨rfl, rfl⟩

def badE (n : Nat) (x : Nat × Nat) : Bool := !decide (x.1 < n) || (!decide (x.2 < n) || decide (x.1 = x.2))

set_option maxRecDepth 100000 in
set_option maxHeartbeats 2000000 in
theorem bad_ok (n B : Nat) (x : Nat × Nat) (w : World) (hB : w.cell? ⟨B, 0, none⟩ = some (.int .i64 n)) :
    Calls Tryz.prog 67 #[.agg #[.int .i64 (x.1 : Int), .int .i64 (x.2 : Int)], .pointer (some ⟨B, 0, none⟩)] w fun e w' => e = .returned (.bool (badE n x)) ∧ Below w.heap.size w w' := by
  obtain ⟨u, v⟩ := x
  have hw := fun (v : Nat) W => ewithin_ok n v W
  have hl := World.block_lt_of_cell? _ _ hB
  simp at hl
  have hne : B ≠ w.heap.size := by omega
  have HK := hid ((Below.refl w.heap.size w).alloc (Nat.le_refl _) (.cells #[.int .i64 (u : Int), .int .i64 (v : Int)] 59))
  obtain ⟨r, hr⟩ : ∃ r, badE n (u, v) = r := ⟨_, rfl⟩
  rw [hr]
  unfold badE at hr
  obtain ⟨p, hp⟩ : ∃ p, decide (u < n) = p := ⟨_, rfl⟩
  obtain ⟨q, hq⟩ : ∃ q, decide (v < n) = q := ⟨_, rfl⟩
  obtain ⟨s, hs⟩ : ∃ s, decide (u = v) = s := ⟨_, rfl⟩
  dsimp only at hr
  rw [hp, hq, hs] at hr
  have hwu := fun W => hw u W
  have hwv := fun W => hw v W
  rw [hp] at hwu
  rw [hq] at hwv
  have e1 : ((u : Int) == v) = s := by rw [← hs, Bool.eq_iff_iff]; simp; omega
  clear hw hp hq hs
  have HR := hid hr
  clear hr
  go_enter Tryz.func67, Tryz.ntmps67
  go_wp2_with fail
  refine (hwu _).mono ?_
  rintro e w1 ⟨rfl, rfl⟩
  cases p with
  | false =>
    go_wp2_with fail
    go_ret
    exact ⟨by rw [← HR.out]; rfl, HK.out⟩
  | true =>
    go_wp2_with fail
    refine (hwv _).mono ?_
    rintro e w2 ⟨rfl, rfl⟩
    cases q with
    | false =>
      go_wp2_with fail
      go_ret
      exact ⟨by rw [← HR.out]; rfl, HK.out⟩
    | true =>
      cases s with
      | false =>
        go_wp2_with fail
        go_ret
        exact ⟨by rw [← HR.out]; rfl, HK.out⟩
      | true =>
        go_wp2_with fail
        go_ret
        exact ⟨by rw [← HR.out]; rfl, HK.out⟩

set_option maxRecDepth 100000 in
set_option maxHeartbeats 1000000 in
theorem Index_none (a : Option Addr) (c : Nat) (f : Value) (w : World) : Calls Tryz.prog 105 #[.slice a 0 c, f] w fun e w' => e = .returned (.int .i64 (-1)) ∧ w' = w := by
  go_enter Tryz.func105, Tryz.ntmps105
  go_wp2
  go_loop [8] (fun v => v = .int .i64 0) (fun _ => 0)
  case atStart => rfl
  case round =>
    obtain rfl := hrel
    go_wp2
    go_ret
    exact ⟨rfl, rfl⟩
set_option maxRecDepth 100000 in
set_option maxHeartbeats 1000000 in
theorem Contains_none (a : Option Addr) (c : Nat) (f : Value) (w : World) : Calls Tryz.prog 70 #[.slice a 0 c, f] w fun e w' => e = .returned (.bool false) ∧ w' = w := by
  go_enter Tryz.func70, Tryz.ntmps70
  go_wp2_with (go_at_call 105; refine (Index_none a c f w).mono ?_; rintro e w' ⟨rfl, rfl⟩)
  go_ret
  exact ⟨rfl, rfl⟩

theorem pred_bad (n B : Nat) (w : World) (hB : w.cell? ⟨B, 0, none⟩ = some (.int .i64 n)) :
    PredBelow Tryz.prog 67 #[.pointer (some ⟨B, 0, none⟩)] (fun x => .agg (encL x).toArray) (badE n) w := fun W x hb => by
  have hl := World.block_lt_of_cell? _ _ hB
  simp at hl
  have hc : W.cell? ⟨B, 0, none⟩ = some (.int .i64 n) := (hb.cell (p := ⟨B, 0, none⟩) hl).trans hB
  exact (bad_ok n B x W hc).mono fun e w' ⟨h1, h2⟩ => ⟨h1, hb.trans (h2.mono hb.size)⟩

theorem Contains_ok (n B : Nat) (a : Option Addr) (es : List (Nat × Nat)) (c : Nat) (E : TypeId) (w : World) (hB : w.cell? ⟨B, 0, none⟩ = some (.int .i64 n)) (h : IsEdges w E 0 (.slice a es.length c) es) (hl : es.length ≤ 1000000) (hg : es.any (badE n) = false) :
    Calls Tryz.prog 70 #[.slice a es.length c, .func (.func 67) #[] #[.pointer (some ⟨B, 0, none⟩)]] w fun e w' => e = .returned (.bool false) ∧ Kept [] w w' := by
  obtain ⟨a', c', he, hc, hnone, hsome⟩ := h.slice
  cases he
  by_cases h0 : es.length = 0
  · rw [h0]
    exact (Contains_none a c _ w).mono fun e w' ⟨h1, h2⟩ => ⟨h1, h2 ▸ Kept.refl _ _⟩
  · cases a with
    | none => exact absurd (hnone rfl).1 h0
    | some ad =>
      obtain ⟨g, rfl, _, hgl, hcell⟩ := hsome ad rfl
      have eg : ∀ args w, (callFunc 67 args).run Tryz.prog w = .ok (.enter 67 args) w := enters_of Tryz.func67 (by kernel_rfl) rfl
      have hcon := AnyQ.slices_ContainsFunc Tryz.containsE 2 Tryz.isAgg59 Tryz.sizeOf59 encL (fun _ => rfl) (badE n) 67 #[.pointer (some ⟨B, 0, none⟩)] eg g 0 es.length c es w (pred_bad n B w hB) (Nat.le_refl _) (by omega) hgl (fun j hj i v hi => by
        rw [Nat.zero_add]; exact hcell _ _ (cellsOf_get hj hi))
      rw [List.take_length, hg] at hcon
      exact hcon.mono fun e w' ⟨h1, hb⟩ => ⟨h1, ⟨hb.os, hb.tape, hb.output, hb.size, fun k hk _ => hb.block k hk⟩⟩

theorem flat_cells (es : List (Nat × Nat)) : flatK encL 2 es.toArray = (cellsOf es).toArray := by
  apply Array.ext
  · simp [cellsOf_length]
  · intro t h1 h2
    simp only [size_flatK, List.size_toArray] at h1
    have hj : t / 2 < es.length := by omega
    have hc := cellsOf_at es (t / 2) hj
    have he : es.toArray[t / 2]! = edge es (t / 2) := by rw [getElem!_pos _ _ (by simpa using hj), edge_eq hj]; simp
    have hg := get_flatK encL 2 es.toArray t (by simpa using h1)
    rw [getElem!_pos _ t (by simpa using h1)] at hg
    rw [hg, he]
    simp only [List.getElem_toArray]
    rcases Nat.mod_two_eq_zero_or_one t with h | h
    · rw [h]
      have ht : t = t / 2 * 2 := by omega
      have := hc.1
      rw [← ht, List.getElem?_eq_getElem (by simpa using h2)] at this
      simp only [Option.some.injEq] at this
      rw [this]; rfl
    · rw [h]
      have ht : t = t / 2 * 2 + 1 := by omega
      have := hc.2
      rw [← ht, List.getElem?_eq_getElem (by simpa using h2)] at this
      simp only [Option.some.injEq] at this
      rw [this]; rfl

theorem sorted_eC {es : List (Nat × Nat)} (h : Rising es) : (es.mergeSort fun x y => !(ltOf eC) y x) = es := by
  refine List.mergeSort_of_pairwise ?_
  refine List.Pairwise.imp ?_ h
  intro x y hxy
  rw [lt_eC, Bool.not_eq_true', Bool.eq_false_iff, ne_eq, eLess_iff]
  unfold eLt at *
  omega

theorem Sort_edges (a : Option Addr) (es : List (Nat × Nat)) (c B : Nat) (w : World) (h : IsEdges w 59 B (.slice a es.length c) es) (hr : Rising es) (hl : es.length ≤ 1000000) :
    Calls Tryz.prog 107 #[.slice a es.length c, .func (.func 74) #[] #[]] w fun e w' => e = .returned (.tuple #[]) ∧ Kept [] w w' := by
  have hown := h.own
  obtain ⟨a', c', he, hc, hnone, hsome⟩ := h.slice
  cases he
  by_cases h0 : es.length = 0
  · rw [h0]
    exact (AnyF.slices_SortFunc_none Tryz.sortE a c _ w).mono fun e w' ⟨h1, h2⟩ => ⟨h1, h2 ▸ Kept.refl _ _⟩
  · cases a with
    | none => exact absurd (hnone rfl).1 h0
    | some ad =>
      obtain ⟨g, rfl, _, hgl, hcell⟩ := hsome ad rfl
      have eg : ∀ args w, (callFunc 74 args).run Tryz.prog w = .ok (.enter 74 args) w := enters_of Tryz.func74 (by kernel_rfl) rfl
      have hH : HoldsK encL 2 w g 0 es.toArray := by
        unfold HoldsK
        rw [flat_cells]
        intro j hj
        rcases hown.2 with ⟨h1, _⟩ | ⟨g', cap', cur, hv, _, hg, _⟩
        · cases h1
        · cases hv
          refine ⟨?_, frozen_of_obj hg _⟩
          rw [Nat.zero_add]
          refine hcell _ _ ?_
          rw [getElem!_pos (cellsOf es).toArray j hj]
          simp only [List.getElem_toArray, id]
          rw [List.getElem?_eq_getElem (by simpa using hj)]
      have hcon := AnyQ.slices_SortFunc_total Tryz.sortE 2 Tryz.isAgg59 Tryz.sizeOf59 encL (fun _ => rfl) (fun x v hv => by simp [encL] at hv; rcases hv with rfl | rfl <;> rfl) eC swo_eC 74 #[] g 0 c es.toArray w eg (fun _ _ _ _ x y => eby_ok x y _) hH hgl (by simp; omega) tot_eC
      rw [sorted_eC hr] at hcon
      refine hcon.mono ?_
      rintro e w' ⟨h1, n, os, h2⟩
      refine ⟨h1, ?_⟩
      have hs : putRowK encL 2 (Sort.ahead w n) g 0 es.toArray = Sort.ahead w n := by
        unfold putRowK
        rw [Sort.putRow_ahead, Sort.putRow_self _ _ _ _ _ hH]
      unfold sortWorldK at h2
      rw [hs] at h2
      subst h2
      refine ⟨rfl, rfl, rfl, by simp [Sort.grow], fun k hk _ => ?_⟩
      simp [Sort.grow, Array.getElem?_append, hk]

theorem rising_ne {es : List (Nat × Nat)} (h : Rising es) {k : Nat} (h1 : 1 ≤ k) (hk : k < es.length) : (edge es k).1 ≠ (edge es (k - 1)).1 ∨ (edge es k).2 ≠ (edge es (k - 1)).2 := by
  have := List.pairwise_iff_getElem.1 h (k - 1) k (by omega) hk (by omega)
  rw [edge_eq hk, edge_eq (by omega)]
  unfold eLt at this
  omega

set_option maxRecDepth 100000 in
set_option maxHeartbeats 2000000 in
theorem Compact_edges (a : Option Addr) (es : List (Nat × Nat)) (c B : Nat) (w : World) (h : IsEdges w 59 B (.slice a es.length c) es) (hr : Rising es) (hl : es.length ≤ 1000000) :
    Calls Tryz.prog 71 #[.slice a es.length c] w fun e w' => e = .returned (.slice a es.length c) ∧ Kept [] w w' := by
  obtain ⟨a', c', he, hc, hnone, hsome⟩ := h.slice
  cases he
  have HR := hid hr
  clear hr
  by_cases h2 : es.length < 2
  · have d1 : decide ((es.length : Int) < 2) = true := by simp; omega
    go_enter Tryz.func71, Tryz.ntmps71
    go_wp2
    go_ret
    exact ⟨rfl, Kept.refl _ _⟩
  · have d1 : decide ((es.length : Int) < 2) = false := by simp; omega
    cases a with
    | none => exact absurd (hnone rfl).1 (by omega)
    | some ad =>
      obtain ⟨g, rfl, _, hgl, hcell⟩ := hsome ad rfl
      have HC := hid hcell
      clear hcell hnone hsome
      go_enter Tryz.func71, Tryz.ntmps71
      go_wp2
      go_loopw [3] (fun v wr => ∃ k : Nat, 1 ≤ k ∧ k ≤ es.length ∧ v = .int .i64 k ∧ Kept [] w wr) (fun v _ => es.length - (intOf v).toNat)
      case atStart => exact ⟨1, by omega, by omega, rfl, Kept.refl _ _⟩
      case round =>
        obtain ⟨k, hk1, hk, rfl, hK⟩ := hrel
        by_cases hlt : k < es.length
        · have hlt2 : k - 1 < es.length := by omega
          have a1 : IntKind.i64.wrap ((k : Int) - 1) = ((k - 1 : Nat) : Int) := by rw [IntWalk.i64_in _ (by omega)]; omega
          have e1 := hK.cell_some (HC.out _ _ (cellsOf_at es k hlt).1) (by simp)
          have e2 := hK.cell_some (HC.out _ _ (cellsOf_at es k hlt).2) (by simp)
          have p1 := hK.cell_some (HC.out _ _ (cellsOf_at es (k - 1) hlt2).1) (by simp)
          have p2 := hK.cell_some (HC.out _ _ (cellsOf_at es (k - 1) hlt2).2) (by simp)
          have hne := rising_ne HR.out hk1 hlt
          generalize (edge es k).1 = x1 at *
          generalize (edge es k).2 = x2 at *
          generalize (edge es (k - 1)).1 = y1 at *
          generalize (edge es (k - 1)).2 = y2 at *
          have HKK := hid hK
          have hq := hid hk1
          generalize hj : k - 1 = j at *
          have HJ := hid hj
          clear hj hK hk1
          by_cases q1' : x1 = y1
          · have q2' : x2 ≠ y2 := hne.resolve_left (fun h => h q1')
            have q1 : ((x1 : Int) == (y1 : Int)) = true := by rw [q1']; simp
            have q2 : ((x2 : Int) == (y2 : Int)) = false := by simp; omega
            clear hne q1' q2'
            go_wp2_with fail
            go_quiet (fail)
            go_wp2
            exact ⟨⟨k + 1, by omega, by omega, by go_num, HKK.out.drewN nq⟩, by simp [intOf]; omega⟩
          · have q1 : ((x1 : Int) == (y1 : Int)) = false := by simp; omega
            clear hne q1'
            go_wp2_with fail
            go_quiet (fail)
            go_wp2
            exact ⟨⟨k + 1, by omega, by omega, by go_num, HKK.out.drewN nq⟩, by simp [intOf]; omega⟩
        · go_wp2
          go_ret
          exact ⟨rfl, hK⟩

set_option maxRecDepth 100000 in
set_option maxHeartbeats 2000000 in
theorem Equal_edges (a b : Option Addr) (es : List (Nat × Nat)) (c d B B2 : Nat) (E E2 : TypeId) (w : World) (h : IsEdges w E B (.slice a es.length c) es) (h2 : IsEdges w E2 B2 (.slice b es.length d) es) (hl : es.length ≤ 1000000) :
    Calls Tryz.prog 32 #[.slice a es.length c, .slice b es.length d] w fun e w' => e = .returned (.bool true) ∧ Kept [] w w' := by
  obtain ⟨a', c', he, hc, hnone, hsome⟩ := h.slice
  cases he
  obtain ⟨b', d', he, hd, hnone2, hsome2⟩ := h2.slice
  cases he
  have HS := hid hsome
  have HS2 := hid hsome2
  clear hsome hsome2
  go_enter Tryz.func32, Tryz.ntmps32
  go_wp2
  go_loopw [5, 13] (fun _ v wr => ∃ k : Nat, k ≤ es.length ∧ v = .int .i64 k ∧ Kept [] w wr) (fun _ v _ => es.length - (intOf v).toNat)
  case atStart => exact ⟨0, by omega, rfl, Kept.refl _ _⟩
  case round =>
    obtain ⟨k, hk, rfl, hK⟩ := hrel
    by_cases hlt : k < es.length
    · cases a with
      | none => have := (hnone rfl).1; omega
      | some ad =>
        cases b with
        | none => have := (hnone2 rfl).1; omega
        | some bd =>
          obtain ⟨g, rfl, _, hgl, hcell⟩ := HS.out ad rfl
          obtain ⟨g2, rfl, _, hgl2, hcell2⟩ := HS2.out bd rfl
          have e1 := hK.cell_some (hcell _ _ (cellsOf_at es k hlt).1) (by simp)
          have e2 := hK.cell_some (hcell _ _ (cellsOf_at es k hlt).2) (by simp)
          have p1 := hK.cell_some (hcell2 _ _ (cellsOf_at es k hlt).1) (by simp)
          have p2 := hK.cell_some (hcell2 _ _ (cellsOf_at es k hlt).2) (by simp)
          generalize (edge es k).1 = x1 at *
          generalize (edge es k).2 = x2 at *
          have HKK := hid hK
          clear hK hcell hcell2 HS HS2
          go_wp2_with fail
          go_quiet (fail)
          go_wp2
          exact ⟨⟨k + 1, by omega, by go_num, HKK.out.drewN nq⟩, by simp [intOf]; omega⟩
    · go_wp2
      go_ret
      exact ⟨rfl, hK⟩
end Go.Proofs.YtedljgohmlilgaaGreat
