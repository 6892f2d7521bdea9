/-
  The walk of truth's rank.
-/
import Derived.Test.YtedljgohmlilgaaGreatTGr
import Derived.Test.YtedljgohmlilgaaGreatGRank
import Derived.Test.YtedljgohmlilgaaGreatKerP
namespace Go.Proofs.YtedljgohmlilgaaGreat
open Go.RowKit
set_option linter.unusedVariables false
set_option linter.unusedSimpArgs false

theorem tab_replicate (n : Nat) (x : Int) : tab (fun _ => x) n = List.replicate n x := list_ext_nth (by simp [tab_length]) (fun i hi => by rw [tab_length] at hi; rw [nth_tab _ _ _ hi, nth_replicate hi])
theorem rank_sum_t {x y : Int} {m : Nat} (h0 : 0 ≤ x) (h1 : x < 18446744073709551616) (hm : 1 ≤ m) : IntKind.u64.wrap (y + IntKind.u64.wrap (x.tdiv m)) = word (y + x / m) := rank_sum h0 h1 hm

/-- A graph's value, boxed: its rows are read alone. -/
structure GBox (w : World) (bx n : Nat) (oa aa : Option Addr) : Prop where
  obj : w.heap[bx]? = some (.cells #[.int .i64 (n : Int), .slice oa n n, .slice aa n n] 96 (0, 0))
theorem GBox.kept {w w' : World} {bx n : Nat} {oa aa : Option Addr} (h : GBox w bx n oa aa) (k : Kept [] w w') : GBox w' bx n oa aa := ⟨k.obj h.obj (by simp)⟩

set_option maxRecDepth 100000 in
set_option maxHeartbeats 8000000 in
theorem trank_ok (ts : List (List Nat)) (n R : Nat) (oa aa : Option Addr) (L : List Nat) (w : World) (h : IsOut w L oa ts) (hl : ts.length = n) (hn1 : 1 ≤ n) (hn : n ≤ 256) (hw : Within ts n) (hsz : ∀ j, (row ts j).length ≤ 1000000) (hR : R ≤ 1000) :
    Calls Tryz.prog 36 #[.agg #[.int .i64 n, .slice oa n n, .slice aa n n], .int .i64 R] w fun e w' => ∃ g, e = .returned (.slice (some ⟨g, 0, none⟩) n n) ∧ w.heap.size ≤ g ∧ Kept [] w w' ∧ U64s w' g (kCurAt 2 R n (edgesOf 0 ts) R) := by
  have HW := hid hw
  have HZ := hid hsz
  have HO := hid h
  clear hw hsz h
  obtain ⟨T, hT⟩ : ∃ T, T = edgesOf 0 ts := ⟨_, rfl⟩
  have HT := hid hT
  rw [← hT]
  clear hT
  obtain ⟨bx, hbx⟩ : ∃ bx, bx = w.heap.size := ⟨_, rfl⟩
  obtain ⟨w0, hw0⟩ : ∃ w0, w0 = w.alloc (.cells #[.int .i64 (n : Int), .slice oa n n, .slice aa n n] 96) := ⟨_, rfl⟩
  have K0 := hid (show Kept [] w w0 by rw [hw0]; exact (Kept.refl _ _).alloc _)
  have G0 := hid (show GBox w0 bx n oa aa from ⟨by rw [hw0]; exact new_obj hbx⟩)
  have HW0 := hid hw0
  have HBX := hid hbx
  clear hw0 hbx
  have b0 : w0.cell? ⟨bx, 0, none⟩ = some (.int .i64 (n : Int)) := cell_of_obj G0.out.obj 0
  go_enter Tryz.func36, Tryz.ntmps36
  go_wp2_with fail
  rw [← HW0.out, ← HBX.out]
  go_wp2_with fail
  refine (tfill_ok n 4294967296 w0 hn1 hn).mono ?_
  rintro e w1 ⟨g, rfl, hg, hk1, hu1⟩
  have hgw := hid (show w.heap.size ≤ g by have := K0.out.size; omega)
  have hbg := hid (show bx ≠ g by have := obj_lt G0.out.obj; omega)
  have K1 := hid (K0.out.trans hk1)
  have G1 := hid (G0.out.kept hk1)
  have U1 := hid (show U64s w1 g (kCurAt 2 R n T 0) by rw [kCurAt_zero]; show U64s w1 g (tab (fun _ => one) n); rw [tab_replicate]; exact hu1)
  clear hk1 hu1 hg b0
  go_wp2_with fail
  go_loopw [17] (fun rv wr => ∃ r : Nat, r ≤ R ∧ rv = .int .i64 r ∧ U64s wr g (kCurAt 2 R n T r) ∧ Kept [] w wr ∧ GBox wr bx n oa aa) (fun rv _ => R - (intOf rv).toNat)
  case atStart => exact ⟨0, Nat.zero_le _, rfl, U1.out, K1.out, G1.out⟩
  case round =>
    obtain ⟨r, hr, rfl, hu, hK, hG⟩ := hrel
    by_cases hlt : r < R
    · obtain ⟨xs, hxs⟩ : ∃ xs, xs = kCurAt 2 R n T r := ⟨_, rfl⟩
      rw [← hxs] at hu
      have HXS := hid hxs
      have HXL := hid (show xs.length = n by rw [hxs]; exact (kState_length 2 R n T r).1)
      have HXW := hid (show Words xs by rw [hxs]; exact (kState_words 2 R n T r rfl).1)
      have HAC := hid (show kAccAt 2 R n T r = List.replicate n 0 by
        rw [← tab_replicate]
        cases r with
        | zero => rfl
        | succ r => rfl)
      have HU := hid hu
      have HK := hid hK
      have HG := hid hG
      have b0 : wr.cell? ⟨bx, 0, none⟩ = some (.int .i64 (n : Int)) := cell_of_obj hG.obj 0
      clear hxs hu hK hG
      go_wp2_with fail
      refine (tfill_ok n 0 wr hn1 hn).mono ?_
      rintro e w2 ⟨g2, rfl, hg2, hk2, hu2⟩
      have hgl := HU.out.lt
      have hne : g ≠ g2 := by omega
      have hbg2 := hid (show bx ≠ g2 by have := obj_lt HG.out.obj; omega)
      have hg2w := hid (show w.heap.size ≤ g2 by have := HK.out.size; omega)
      have K2 := hid (HK.out.trans hk2)
      have U2 := hid (HU.out.kept hk2 (by simp))
      have G2 := hid (HG.out.kept hk2)
      have V2 := hid hu2
      have b1 : w2.cell? ⟨bx, 1, none⟩ = some (.slice oa n n) := cell_of_obj G2.out.obj 1
      clear hk2 hu2 hg2 b0 hgl HU HK HG
      go_wp2_with fail
      go_loopw [7, 8, 10, 25] (fun _ _ _ uv wr => ∃ u : Nat, u ≤ n ∧ uv = .int .i64 u ∧ U64s wr g xs ∧ U64s wr g2 (rankShard xs (List.replicate n 0) (T.take (ahead ts u))) ∧ Kept [] w wr ∧ GBox wr bx n oa aa) (fun _ _ _ uv _ => n - (intOf uv).toNat)
      case atStart => exact ⟨0, Nat.zero_le _, rfl, U2.out, by rw [ahead_zero]; exact V2.out, K2.out, G2.out⟩
      case round =>
        obtain ⟨u, hu', rfl, hu, hv, hK, hG⟩ := hrel
        by_cases hlt2 : u < n
        · obtain ⟨b, o, rfl, hb, ua, cu, hc, hN⟩ := HO.out.cells u (by omega)
          replace hc := hK.cell_some hc (by simp)
          have hz := HZ.out u
          obtain ⟨ln, hln⟩ : ∃ ln, ln = (row ts u).length := ⟨_, rfl⟩
          rw [← hln] at hc hz
          have HLN := hid hln
          have HN := hid hN
          have HU := hid hu
          have HV := hid hv
          have HK := hid hK
          have HG := hid hG
          clear hln hN hu hv hK hG
          go_wp2_with fail
          obtain ⟨wo, rfl⟩ : ∃ wo : World, wo = wr := ⟨_, rfl⟩
          go_loopw [10, 32] (fun _ jv wi => ∃ j : Nat, j ≤ ln ∧ jv = .int .i64 j ∧ U64s wi g xs ∧ U64s wi g2 (rankShard xs (List.replicate n 0) (T.take (ahead ts u + j))) ∧ Kept [] w wi ∧ GBox wi bx n (some ⟨b, o, none⟩) aa) (fun _ jv _ => ln - (intOf jv).toNat)
          case atStart => exact ⟨0, Nat.zero_le _, rfl, HU.out, HV.out, HK.out, HG.out⟩
          case round =>
            obtain ⟨j, hj, rfl, hu, hv, hK, hG⟩ := hrel
            by_cases hlt3 : j < ln
            · obtain ⟨b', o', rfl, hb', hcn⟩ := (HN.out.kept hK (by simp)).cells j (by rw [← HLN.out]; exact hlt3)
              obtain ⟨v, hvv⟩ : ∃ v, v = nat (row ts u) j := ⟨_, rfl⟩
              have hvn : v < n := by rw [hvv]; exact HW.out u (by omega) j (by rw [← HLN.out]; exact hlt3)
              rw [← hvv] at hcn
              have hed := edgesOf_at 0 ts u j (by omega) (by rw [← HLN.out]; exact hlt3)
              rw [← hvv, ← HLN.out, Nat.zero_add, ← HT.out] at hed
              obtain ⟨ys, hys⟩ : ∃ ys, ys = rankShard xs (List.replicate n 0) (T.take (ahead ts u + j)) := ⟨_, rfl⟩
              have hyl : ys.length = n := by rw [hys, rankShard_length]; simp
              have HST := hid (show rankShard xs (List.replicate n 0) (T.take (ahead ts u + (j + 1))) = ys.set v (word (nth ys v + nth xs u / (ln : Int))) by
                rw [← Nat.add_assoc, rankShard, foldl_take_succ _ _ _ _ _ hed, hys]; rfl)
              rw [← hys] at hv
              have cy := hv.cell (i := v) (by rw [hyl]; exact hvn)
              have cx := hu.cell (i := u) (by rw [HXL.out]; exact hlt2)
              have fy := hv.free v
              have hxu := (HXW.out u).1
              have hxu2 := (HXW.out u).2
              have hsm := hid (fun y => rank_sum_t (y := y) hxu hxu2 (show 1 ≤ ln by omega))
              have w1' : IntKind.u64.wrap (ln : Int) = ln := u64_in (by omega) (by omega)
              have w2' : ¬ ln = 0 := by omega
              have UU := hid hu
              have VV := hid hv
              have KK := hid hK
              have GG := hid hG
              have HVV := hid hvv
              clear hu hv hK hG hvv hys hed hyl hxu hxu2
              go_wp2_with fail
              go_region
              all_goals (
                go_wp2
                rw [hsm.out]
                exact ⟨⟨j + 1, by omega, by go_num, UU.out.kept (S := [g2]) ((Kept.refl [g2] _).drew.setCell (p := ⟨g2, v, none⟩) (.inl (by simp)) _) (by simpa using hne), by rw [HST.out]; exact (VV.out.kept ((Kept.refl [] _).drew) (by simp)).set _ _, KK.out.drew.setCell (p := ⟨g2, v, none⟩) (.inr hg2w.out) _, ⟨(((Kept.refl [g2] _).drew).setCell (p := ⟨g2, v, none⟩) (.inl (by simp)) _).obj GG.out.obj (by simpa using hbg2.out)⟩⟩, by simp [intOf]; omega⟩)
            · obtain rfl : ln = j := by omega
              go_wp2
              exact ⟨⟨u + 1, by omega, by go_num, hu, by rw [ahead_succ _ _ (by omega), ← HLN.out]; exact hv, hK, hG⟩, by simp [intOf]; omega⟩
        · obtain rfl : n = u := by omega
          have hall : T.take (ahead ts n) = T := by
            rw [← hl, ← edgesOf_length 0 ts, ← HT.out, List.take_length]
          rw [hall] at hv
          obtain ⟨ys, hys⟩ : ∃ ys, ys = rankShard xs (List.replicate n 0) T := ⟨_, rfl⟩
          have hyl : ys.length = n := by rw [hys, rankShard_length]; simp
          have HNX := hid (show kCurAt 2 R n T (r + 1) = tab (fun i => ranked (nth ys i)) n by
            rw [kCurAt_succ, kFull, HAC.out, ← HXS.out, hys]; rfl)
          rw [← hys] at hv
          have HU := hid hu
          have HV := hid hv
          have HK := hid hK
          have HG := hid hG
          have HYL := hid hyl
          clear hu hv hK hG hys hyl hall
          go_wp2_with fail
          obtain ⟨wo, rfl⟩ : ∃ wo : World, wo = wr := ⟨_, rfl⟩
          go_loopw [11, 12, 54] (fun _ _ iv wi => ∃ i : Nat, i ≤ n ∧ iv = .int .i64 i ∧ U64s wi g (setTo (fun i => ranked (nth ys i)) i xs) ∧ U64s wi g2 ys ∧ Kept [] w wi ∧ GBox wi bx n oa aa) (fun _ _ iv _ => n - (intOf iv).toNat)
          case atStart => exact ⟨0, Nat.zero_le _, rfl, HU.out, HV.out, HK.out, HG.out⟩
          case round =>
            obtain ⟨i, hi, rfl, hu, hv, hK, hG⟩ := hrel
            by_cases hlt3 : i < n
            · have cy := hv.cell (i := i) (by rw [HYL.out]; exact hlt3)
              have cx := hu.cell (i := i) (by rw [setTo_length, HXL.out]; exact hlt3)
              have fx := hu.free i
              have hrk := hid (ranked_eq (nth ys i))
              have UU := hid hu
              have VV := hid hv
              have KK := hid hK
              have GG := hid hG
              clear hu hv hK hG
              go_wp2
              rw [hrk.out]
              exact ⟨⟨i + 1, by omega, by go_num, UU.out.set _ _, VV.out.kept (S := [g]) ((Kept.refl [g] _).setCell (p := ⟨g, i, none⟩) (.inl (by simp)) _) (by simpa using Ne.symm hne), KK.out.setCell (p := ⟨g, i, none⟩) (.inr hgw.out) _, ⟨((Kept.refl [g] _).setCell (p := ⟨g, i, none⟩) (.inl (by simp)) _).obj GG.out.obj (by simpa using hbg.out)⟩⟩, by simp [intOf]; omega⟩
            · obtain rfl : n = i := by omega
              have HNX2 := hid (show setTo (fun i => ranked (nth ys i)) n xs = kCurAt 2 R n T (r + 1) by
                rw [HNX.out, ← HXL.out, setTo_all, HXL.out])
              go_wp2
              exact ⟨⟨r + 1, by omega, by go_num, by rw [← HNX2.out]; exact hu, hK, hG⟩, by simp [intOf]; omega⟩
    · obtain rfl : R = r := by omega
      go_wp2
      go_ret
      exact ⟨g, rfl, hgw.out, hK, hu⟩
end Go.Proofs.YtedljgohmlilgaaGreat
