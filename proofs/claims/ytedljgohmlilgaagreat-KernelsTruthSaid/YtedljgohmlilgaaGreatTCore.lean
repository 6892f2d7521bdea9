/-
  The walk of truth's cores.
-/
import Derived.Test.YtedljgohmlilgaaGreatTRank
namespace Go.Proofs.YtedljgohmlilgaaGreat
open Go.RowKit
set_option linter.unusedVariables false
set_option linter.unusedSimpArgs false

/-- The sum of what some vertices have. -/
def dsum (xs : List Int) : List Nat → Int
  | [] => 0
  | u :: l => nth xs u + dsum xs l
theorem dsum_append (xs : List Int) (l m : List Nat) : dsum xs (l ++ m) = dsum xs l + dsum xs m := by
  induction l with
  | nil => simp [dsum]
  | cons u l ih => rw [List.cons_append, dsum, dsum, ih]; omega
theorem dsum_take (xs : List Int) (l : List Nat) {j : Nat} (h : j < l.length) : dsum xs (l.take (j + 1)) = dsum xs (l.take j) + nth xs (nat l j) := by
  rw [List.take_succ_eq_append_getElem h, dsum_append, dsum, dsum, nat_eq h]; omega
theorem dsum_bits {xs : List Int} (h : ∀ i, nth xs i = 0 ∨ nth xs i = 1) (l : List Nat) : 0 ≤ dsum xs l ∧ dsum xs l ≤ l.length := by
  induction l with
  | nil => simp [dsum]
  | cons u l ih => rw [dsum, List.length_cons]; have := h u; omega
/-- Who goes. -/
def goesT (k : Nat) (ts : List (List Nat)) (xs : List Int) (v : Nat) : Bool := decide (nth xs v = 1) && decide (dsum xs (row ts v) < k)
def goneL (k : Nat) (ts : List (List Nat)) (xs : List Int) (m : Nat) : List Nat := (List.range m).filter (goesT k ts xs)
theorem goneL_succ (k : Nat) (ts : List (List Nat)) (xs : List Int) (m : Nat) : goneL k ts xs (m + 1) = goneL k ts xs m ++ (if goesT k ts xs m = true then [m] else []) := by
  unfold goneL
  rw [List.range_succ, List.filter_append]
  congr 1
  by_cases h : goesT k ts xs m = true
  · simp [h]
  · simp at h; simp [h]
theorem goneL_length (k : Nat) (ts : List (List Nat)) (xs : List Int) (m : Nat) : (goneL k ts xs m).length ≤ m := by
  have := List.length_filter_le (goesT k ts xs) (List.range m)
  simpa [goneL] using this
theorem mem_goneL {k : Nat} {ts : List (List Nat)} {xs : List Int} {m v : Nat} : v ∈ goneL k ts xs m ↔ v < m ∧ goesT k ts xs v = true := by simp [goneL]
def dropAll (xs : List Int) (l : List Nat) : List Int := l.foldl (fun o v => o.set v 0) xs
theorem dropAll_length (xs : List Int) (l : List Nat) : (dropAll xs l).length = xs.length := by
  unfold dropAll
  induction l generalizing xs with
  | nil => rfl
  | cons v l ih => rw [List.foldl_cons, ih]; simp
theorem dropAll_take (xs : List Int) (l : List Nat) {j : Nat} (h : j < l.length) : dropAll xs (l.take (j + 1)) = (dropAll xs (l.take j)).set (nat l j) 0 := by
  unfold dropAll; rw [List.take_succ_eq_append_getElem h, List.foldl_append, nat_eq h]; rfl
theorem nth_dropAll (xs : List Int) (l : List Nat) (v : Nat) : nth (dropAll xs l) v = if v ∈ l then 0 else nth xs v := by
  unfold dropAll
  induction l generalizing xs with
  | nil => simp
  | cons u l ih =>
    rw [List.foldl_cons, ih]
    by_cases h : v ∈ l
    · simp [h]
    · simp only [List.mem_cons, h, or_false, if_false]
      rw [nth_set]
      by_cases e : u = v
      · subst e
        by_cases hl : u < xs.length
        · simp [hl]
        · simp [hl, nth_past (xs := xs) (i := u) (by omega)]
      · rw [if_neg (fun q => e q.1), if_neg (fun q => e q.symm)]
/-- How many are there. -/
def ones (xs : List Int) : Nat := xs.countP fun x => decide (x = 1)
theorem ones_le (xs : List Int) : ones xs ≤ xs.length := List.countP_le_length
theorem ones_set {xs : List Int} : ∀ {v : Nat}, v < xs.length → nth xs v = 1 → ones (xs.set v 0) + 1 = ones xs := by
  induction xs with
  | nil => intro v h; simp at h
  | cons x xs ih =>
    intro v h hv
    cases v with
    | zero =>
      simp [nth] at hv
      simp [ones, hv]
    | succ v =>
      have := ih (v := v) (by simpa using h) (by simpa [nth] using hv)
      simp only [ones, List.set_cons_succ, List.countP_cons] at this ⊢
      omega
theorem ones_set_le (xs : List Int) : ∀ (v : Nat), ones (xs.set v 0) ≤ ones xs := by
  induction xs with
  | nil => intro v; simp
  | cons x xs ih =>
    intro v
    cases v with
    | zero => simp [ones, List.countP_cons]
    | succ v =>
      have := ih v
      simp only [ones, List.set_cons_succ, List.countP_cons] at this ⊢
      omega
theorem ones_dropAll_le (xs : List Int) (l : List Nat) : ones (dropAll xs l) ≤ ones xs := by
  unfold dropAll
  induction l generalizing xs with
  | nil => exact Nat.le_refl _
  | cons v l ih => rw [List.foldl_cons]; exact Nat.le_trans (ih _) (ones_set_le xs v)
theorem ones_dropAll {xs : List Int} {v : Nat} {l : List Nat} (hv : v < xs.length) (h1 : nth xs v = 1) : ones (dropAll xs (v :: l)) + 1 ≤ ones xs := by
  have := ones_set hv h1
  have := ones_dropAll_le (xs.set v 0) l
  unfold dropAll at this ⊢
  rw [List.foldl_cons]
  omega

/-- Who is there behind so many rounds. -/
def tRow (k : Nat) (ts : List (List Nat)) (n : Nat) : Nat → List Int
  | 0 => List.replicate n 1
  | r + 1 => dropAll (tRow k ts n r) (goneL k ts (tRow k ts n r) n)
theorem tRow_length (k : Nat) (ts : List (List Nat)) (n r : Nat) : (tRow k ts n r).length = n := by
  induction r with
  | zero => simp [tRow]
  | succ r ih => rw [tRow, dropAll_length, ih]
theorem tRow_bits (k : Nat) (ts : List (List Nat)) (n r : Nat) : ∀ i, nth (tRow k ts n r) i = 0 ∨ nth (tRow k ts n r) i = 1 := by
  induction r with
  | zero =>
    intro i
    by_cases h : i < n
    · right; rw [tRow, nth_replicate h]
    · left; rw [tRow, nth_past (by simp; omega)]
  | succ r ih =>
    intro i
    rw [tRow, nth_dropAll]
    split
    · exact .inl rfl
    · exact ih i
theorem tRow_ones {k : Nat} {ts : List (List Nat)} {n r : Nat} (h : goneL k ts (tRow k ts n r) n ≠ []) : ones (tRow k ts n (r + 1)) + 1 ≤ ones (tRow k ts n r) := by
  rw [tRow]
  cases hg : goneL k ts (tRow k ts n r) n with
  | nil => exact absurd hg h
  | cons v l =>
    have hm : v ∈ goneL k ts (tRow k ts n r) n := by rw [hg]; simp
    have := mem_goneL.1 hm
    have h1 : nth (tRow k ts n r) v = 1 := by have := this.2; unfold goesT at this; simp at this; exact this.1
    exact ones_dropAll (by rw [tRow_length]; exact this.1) h1

def isOneV : Value → Bool
  | .int .u64 x => decide (x = 1)
  | _ => false
def onesAt (w : World) (g : Nat) : Nat := match w.heap[g]? with
  | some (.cells c _ _) => c.toList.countP isOneV
  | _ => 0
theorem onesAt_eq {w : World} {g : Nat} {xs : List Int} (h : U64s w g xs) : onesAt w g = ones xs := by
  unfold onesAt
  rw [show w.heap[g]? = _ from h]
  simp only [List.countP_map, ones]
  rfl

set_option maxRecDepth 100000 in
set_option maxHeartbeats 16000000 in
theorem tcores_ok (ts : List (List Nat)) (n k : Nat) (oa aa : Option Addr) (L : List Nat) (w : World) (h : IsOut w L aa ts) (hl : ts.length = n) (hn1 : 1 ≤ n) (hn : n ≤ 256) (hw : Within ts n) (hsz : ∀ j, (row ts j).length ≤ 1000000) (hk : k ≤ 1000000) :
    Calls Tryz.prog 38 #[.agg #[.int .i64 n, .slice oa n n, .slice aa n n], .int .i64 k] w fun e w' => ∃ g m, e = .returned (.tuple #[.slice (some ⟨g, 0, none⟩) n n, .int .i64 (m : Nat)]) ∧ w.heap.size ≤ g ∧ Kept [] w w' ∧ U64s w' g (tRow k ts n m) ∧ m ≤ n ∧ goneL k ts (tRow k ts n m) n = [] ∧ ∀ i, i < m → goneL k ts (tRow k ts n i) n ≠ [] := by
  have HW := hid hw
  have HZ := hid hsz
  have HO := hid h
  clear hw hsz h
  obtain ⟨bx, hbx⟩ : ∃ bx, bx = w.heap.size := ⟨_, rfl⟩
  obtain ⟨B, hB⟩ : ∃ B, B = w.heap.size := ⟨_, rfl⟩
  obtain ⟨w0, hw0⟩ : ∃ w0, w0 = w.alloc (.cells #[.int .i64 (n : Int), .slice oa n n, .slice aa n n] 96) := ⟨_, rfl⟩
  have K0 := hid (show Kept [] w w0 by rw [hw0]; exact (Kept.refl _ _).alloc _)
  have G0 := hid (show GBox w0 bx n oa aa from ⟨by rw [hw0]; exact new_obj hbx⟩)
  have HW0 := hid hw0
  have HBX := hid hbx
  have HB := hid hB
  clear hw0 hbx hB
  have b0 : w0.cell? ⟨bx, 0, none⟩ = some (.int .i64 (n : Int)) := cell_of_obj G0.out.obj 0
  go_enter Tryz.func38, Tryz.ntmps38
  go_wp2_with fail
  rw [← HW0.out, ← HBX.out]
  go_wp2_with fail
  refine (tfill_ok n 1 w0 hn1 hn).mono ?_
  rintro e w1 ⟨g, rfl, hg, hk1, hu1⟩
  have hgw := hid (show w.heap.size ≤ g by have := K0.out.size; omega)
  have hbg := hid (show bx ≠ g by have := obj_lt G0.out.obj; omega)
  have K1 := hid (K0.out.trans hk1)
  have G1 := hid (G0.out.kept hk1)
  have U1 := hid (show U64s w1 g (tRow k ts n 0) from hu1)
  clear hk1 hu1 hg b0
  go_wp2_with fail
  go_loopw [7] (fun mv wr => ∃ r : Nat, mv = .int .i64 r ∧ U64s wr g (tRow k ts n r) ∧ Kept [] w wr ∧ GBox wr bx n oa aa ∧ ones (tRow k ts n r) + r ≤ n ∧ ∀ i, i < r → goneL k ts (tRow k ts n i) n ≠ []) (fun _ wr => onesAt wr g)
  case atStart => exact ⟨0, rfl, U1.out, K1.out, G1.out, by have := ones_le (tRow k ts n 0); rw [tRow_length] at this; omega, by intro i hi; omega⟩
  case round =>
    obtain ⟨r, rfl, hu, hK, hG, hon, hgn⟩ := hrel
    obtain ⟨xs, hxs⟩ : ∃ xs, xs = tRow k ts n r := ⟨_, rfl⟩
    rw [← hxs] at hu hon
    have HXS := hid hxs
    have HXL := hid (show xs.length = n by rw [hxs]; exact tRow_length _ _ _ _)
    have HXB := hid (show ∀ i, nth xs i = 0 ∨ nth xs i = 1 by rw [hxs]; exact tRow_bits _ _ _ _)
    have HON := hid (onesAt_eq hu)
    have HOI := hid hon
    have HGN := hid hgn
    have HU := hid hu
    have HK := hid hK
    have HG := hid hG
    have b0 : wr.cell? ⟨bx, 0, none⟩ = some (.int .i64 (n : Int)) := cell_of_obj hG.obj 0
    clear hxs hu hK hG hon hgn
    go_wp2_with fail
    obtain ⟨wo, rfl⟩ : ∃ wo : World, wo = wr := ⟨_, rfl⟩
    go_loopw [8, 20] (fun gv vv wi => ∃ v : Nat, v ≤ n ∧ vv = .int .i64 v ∧ wi.ownsRow B 3 1 gv (goneL k ts xs v).length (intCells (goneL k ts xs v)) ∧ U64s wi g xs ∧ Kept [] w wi ∧ GBox wi bx n oa aa) (fun _ vv _ => n - (intOf vv).toNat)
    case atStart => exact ⟨0, Nat.zero_le _, rfl, World.ownsRow_nil _ _ _ _, HU.out, HK.out, HG.out⟩
    case round =>
      obtain ⟨v, hv, rfl, hq, hu, hK, hG⟩ := hrel
      by_cases hlt : v < n
      · obtain ⟨b, o, rfl, hb, ua, cu, hc, hN⟩ := HO.out.cells v (by omega)
        replace hc := hK.cell_some hc (by simp)
        have hz := HZ.out v
        have b2 : wr.cell? ⟨bx, 2, none⟩ = some (.slice (some ⟨b, o, none⟩) n n) := cell_of_obj hG.obj 2
        obtain ⟨ln, hln⟩ : ∃ ln, ln = (row ts v).length := ⟨_, rfl⟩
        rw [← hln] at hc hz
        have hxb := HXB.out
        obtain ⟨y, hy⟩ : ∃ y, y = nth xs v := ⟨_, rfl⟩
        have cy : wr.cell? ⟨g, v, none⟩ = some (.int .u64 y) := by rw [hy]; exact hu.cell (by rw [HXL.out]; exact hlt)
        have HY := hid hy
        have HLN := hid hln
        have HN := hid (hN.kept hK (by simp))
        have QQ := hid hq
        have UU := hid hu
        have KK := hid hK
        have GG := hid hG
        have HLB := hid (goneL_length k ts xs v)
        have HQS := hid (goneL_succ k ts xs v)
        clear hln hN hq hu hK hG hy
        go_wp2_with fail
        go_loop [10, 12, 29] (fun dv _ jv => ∃ j : Nat, j ≤ ln ∧ jv = .int .i64 j ∧ dv = .int .i64 (dsum xs ((row ts v).take j))) (fun _ _ jv => ln - (intOf jv).toNat)
        case atStart => exact ⟨0, Nat.zero_le _, rfl, rfl⟩
        case round =>
          obtain ⟨j, hj, rfl, rfl⟩ := hrel
          by_cases hlt3 : j < ln
          · obtain ⟨b', o', rfl, hb', hcn⟩ := HN.out.cells j (by rw [← HLN.out]; exact hlt3)
            obtain ⟨u, huu⟩ : ∃ u, u = nat (row ts v) j := ⟨_, rfl⟩
            have hun : u < n := by rw [huu]; exact HW.out v (by omega) j (by rw [← HLN.out]; exact hlt3)
            rw [← huu] at hcn
            have hds := dsum_take xs (row ts v) (j := j) (by rw [← HLN.out]; exact hlt3)
            rw [← huu] at hds
            have hdb := dsum_bits hxb ((row ts v).take j)
            rw [List.length_take] at hdb
            obtain ⟨d, hd⟩ : ∃ d, d = dsum xs ((row ts v).take j) := ⟨_, rfl⟩
            obtain ⟨x, hx⟩ : ∃ x, x = nth xs u := ⟨_, rfl⟩
            have cx : wr.cell? ⟨g, u, none⟩ = some (.int .u64 x) := by rw [hx]; exact UU.out.cell (by rw [HXL.out]; exact hun)
            have hx01 := hxb u
            rw [← hx] at hx01 hds
            rw [← hd] at hds hdb ⊢
            have HDS := hid hds
            have HDD := hid hd
            have HXX := hid hx
            have a1 : IntKind.i64.wrap x = x := IntWalk.i64_in _ (by omega)
            have a2 : wrap64 (d + x) = d + x := IntWalk.wrap64_in _ (by omega)
            clear hds hd hx huu hxb
            go_wp2
            exact ⟨⟨j + 1, by omega, by go_num, by rw [HDS.out]⟩, by simp [intOf]; omega⟩
          · obtain rfl : ln = j := by omega
            have htk : (row ts v).take ln = row ts v := by rw [HLN.out, List.take_length]
            rw [htk]
            obtain ⟨d, hd⟩ : ∃ d, d = dsum xs (row ts v) := ⟨_, rfl⟩
            rw [← hd]
            have HD := hid hd
            have HT := hid htk
            clear hd htk
            by_cases h1 : y = 1
            · have d1 : (y == 1) = true := by rw [h1]; rfl
              by_cases h2 : d < k
              · have d2 : decide (d < (k : Int)) = true := by simpa using h2
                have HGS := hid (show goneL k ts xs (v + 1) = goneL k ts xs v ++ [v] by
                  rw [HQS.out, if_pos]
                  unfold goesT
                  rw [← HY.out, ← HD.out]; simp [h1, h2])
                have b63 := hid (show (goneL k ts xs v).length + 1 ≤ maxLen by have := HLB.out; unfold maxLen; omega)
                have bby := hid (show ((goneL k ts xs v).length + 1) * 8 ≤ 140737488355328 by have := HLB.out; omega)
                have hbw : B ≤ wr.heap.size + 1 := by have := KK.out.size; have := HB.out; omega
                clear h1 h2
                go_wp2_with (at_builtin; go_must (refine wpList_append_any rfl (.tmp 51) (.tmp 53) 37 rfl B 3 (.int .i64 0) 1 8 Tryz.underlying37 info_int_q rfl (by decide) _ _ _ rfl (QQ.out.alloc _) _ _ _ [.int .i64 (v : Int)] rfl rfl (fun h => nomatch h) (news_alloc (cs := [.int .i64 (v : Int)])) (by simp [Value.oneCell']) b63.out bby.out (by simp; omega) ?_); intro v2 w2 ho2 hg2; have K2 := hid ((KK.out.alloc (.cells #[.int .i64 (v : Int)] 3)).grown hg2 (fun i e => .inr (by have := (QQ.out.lt i e).1; have := HB.out; omega))); have U2 := hid (show U64s w2 g xs from grown_keeps hg2 (obj_alloc_old UU.out _) (own_ne QQ.out UU.out (by decide))); have G2 := hid (show GBox w2 bx n oa (some ⟨b, o, none⟩) from ⟨grown_keeps hg2 (obj_alloc_old GG.out.obj _) (own_ne QQ.out GG.out.obj (by decide))⟩))
                exact ⟨⟨v + 1, by omega, by go_num, by rw [HGS.out, List.length_append, intCells_append]; exact ho2, U2.out, K2.out, G2.out⟩, by simp [intOf]; omega⟩
              · have d2 : decide (d < (k : Int)) = false := by simpa using h2
                have HGS := hid (show goneL k ts xs (v + 1) = goneL k ts xs v by
                  rw [HQS.out, if_neg, List.append_nil]
                  unfold goesT
                  rw [← HY.out, ← HD.out]; simp [h2])
                clear h1 h2
                go_wp2
                exact ⟨⟨v + 1, by omega, by go_num, by rw [HGS.out]; exact QQ.out, UU.out, KK.out, GG.out⟩, by simp [intOf]; omega⟩
            · have d1 : (y == 1) = false := by simpa using h1
              have HGS := hid (show goneL k ts xs (v + 1) = goneL k ts xs v by
                rw [HQS.out, if_neg, List.append_nil]
                unfold goesT
                rw [← HY.out, ← HD.out]; simp [h1])
              clear h1
              go_wp2
              exact ⟨⟨v + 1, by omega, by go_num, by rw [HGS.out]; exact QQ.out, UU.out, KK.out, GG.out⟩, by simp [intOf]; omega⟩
      · obtain rfl : n = v := by omega
        obtain ⟨gs, hgs⟩ : ∃ gs, gs = goneL k ts xs n := ⟨_, rfl⟩
        rw [← hgs] at hq
        have hgn : ∀ u, u ∈ gs → u < n := fun u hm => by rw [hgs] at hm; exact (mem_goneL.1 hm).1
        have HGS := hid hgs
        have HGB := hid (show gs.length ≤ 256 by rw [hgs]; exact Nat.le_trans (goneL_length _ _ _ _) hn)
        clear hgs
        obtain ⟨a2, c2, rfl, hc2, hnone, hsome⟩ := ownsRow_slice hq
        by_cases h0 : gs = []
        · have hl0 : gs.length = 0 := by rw [h0]; rfl
          have UU := hid hu
          have KK := hid hK
          clear hq hu hK hG hsome
          go_wp2
          refine bodyPost_ret (v := .tuple #[.slice (some ⟨g, 0, none⟩) n n, .int .i64 (r : Nat)]) (by simp [results, Tryz.results38, go_sem]) rfl ?_
          exact ⟨g, r, rfl, hgw.out, KK.out, by rw [← HXS.out]; exact UU.out, by have := HOI.out; omega, by rw [← HXS.out, ← HGS.out]; exact h0, HGN.out⟩
        · have hl0 : ¬ gs.length = 0 := fun e => h0 (List.eq_nil_of_length_eq_zero e)
          have H0 := hid h0
          clear h0
          cases a2 with
          | none => exact absurd (hnone rfl).1 hl0
          | some ad =>
            obtain ⟨g3, rfl, hBg, hgl, hcell⟩ := hsome ad rfl
            have QQ := hid hq
            have UU := hid hu
            have KK := hid hK
            have GG := hid hG
            have HNE := hid (own_ne hq hu (by decide))
            clear hq hu hK hG hsome hnone hcell
            go_wp2_with fail
            obtain ⟨wo, rfl⟩ : ∃ wo : World, wo = wr := ⟨_, rfl⟩
            go_loopw [14, 63] (fun _ jv wi => ∃ j : Nat, j ≤ gs.length ∧ jv = .int .i64 j ∧ U64s wi g (dropAll xs (gs.take j)) ∧ Kept [] w wi ∧ GBox wi bx n oa aa ∧ wi.ownsRow B 3 1 (.slice (some ⟨g3, 0, none⟩) gs.length c2) gs.length (intCells gs)) (fun _ jv _ => gs.length - (intOf jv).toNat)
            case atStart => exact ⟨0, Nat.zero_le _, rfl, UU.out, KK.out, GG.out, QQ.out⟩
            case round =>
              obtain ⟨j, hj, rfl, hu, hK, hG, hq⟩ := hrel
              by_cases hlt3 : j < gs.length
              · have hgb := HGB.out
                obtain ⟨a4, c4, he4, _, _, hs4⟩ := ownsRow_slice hq
                cases he4
                obtain ⟨g4, he, _, _, hcell⟩ := hs4 _ rfl
                cases he
                have cj := hcell _ _ (intCells_at hlt3)
                obtain ⟨u, huu⟩ : ∃ u, u = nat gs j := ⟨_, rfl⟩
                have hun : u < n := hgn u (by rw [huu, nat_eq hlt3]; exact List.getElem_mem _)
                rw [← huu] at cj
                have cx := hu.cell (i := u) (by rw [dropAll_length, HXL.out]; exact hun)
                have fx := hu.free u
                have HST := hid (show dropAll xs (gs.take (j + 1)) = (dropAll xs (gs.take j)).set u 0 by rw [dropAll_take _ _ hlt3, ← huu])
                have UU := hid hu
                have KK := hid hK
                have GG := hid hG
                have QQ := hid hq
                clear hu hK hG hq hs4 hcell huu
                go_wp2
                exact ⟨⟨j + 1, by omega, by go_num, by rw [HST.out]; exact UU.out.set u 0, KK.out.setCell (p := ⟨g, u, none⟩) (.inr hgw.out) _, ⟨((Kept.refl [g] _).setCell (p := ⟨g, u, none⟩) (.inl (by simp)) _).obj GG.out.obj (by simpa using hbg.out)⟩, ownsRow_kept (S := [g]) QQ.out ((Kept.refl [g] _).setCell (p := ⟨g, u, none⟩) (.inl (by simp)) _) (fun i e => by simp; rintro rfl; exact HNE.out e)⟩, by simp [intOf]; omega⟩
              · obtain rfl : gs.length = j := by omega
                rw [List.take_length] at hu
                have hne : goneL k ts (tRow k ts n r) n ≠ [] := by rw [← HXS.out, ← HGS.out]; exact H0.out
                have HR := hid (show tRow k ts n (r + 1) = dropAll xs gs by rw [tRow, ← HXS.out, ← HGS.out])
                have HO1 := hid (tRow_ones hne)
                have HNE2 := hid hne
                have hrn : r ≤ n := by have := HOI.out; omega
                have UU := hid hu
                have KK := hid hK
                have GG := hid hG
                clear hu hK hG hq hne
                go_wp2
                refine ⟨⟨r + 1, by go_num, by rw [HR.out]; exact UU.out, KK.out, GG.out, ?_, ?_⟩, ?_⟩
                · have h1 := HO1.out
                  rw [← HXS.out] at h1
                  have := HOI.out
                  omega
                · intro i hi
                  rcases Nat.lt_or_ge i r with h | h
                  · exact HGN.out i h
                  · obtain rfl : i = r := by omega
                    exact HNE2.out
                · rw [onesAt_eq UU.out, HON.out, ← HR.out]
                  have h1 := HO1.out
                  rw [← HXS.out] at h1
                  omega
end Go.Proofs.YtedljgohmlilgaaGreat
