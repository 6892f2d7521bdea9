/-
  The walk of carousellaw20.CoresGone.
-/
import Derived.Test.YtedljgohmlilgaaCnt
import Derived.Test.YtedljgohmlilgaaPlR
import Derived.Test.YtedljgohmlilgaaEndC
import Derived.Test.YtedljgohmlilgaaOpen2
namespace Go.Proofs.Ytedljgohmlilgaa
open Go.RowKit
set_option linter.unusedVariables false

/-- The block of a slice is none of these. -/
def OffL (v : Value) (L : List Nat) : Prop := ∀ j, v.ownBlock = some j → j ∉ L
theorem off_four {w w' : World} {pa ga pb gb pc gc pd gd : Nat} {xs ys xs2 ys2 : List Int} {v : Value} {zs : List Int} (h : Two w pa ga pb gb xs ys) (h2 : Two w pc gc pd gd xs2 ys2) (r : IsRow w' w.heap.size v zs) : OffL v [ga, gb, gc, gd] := by
  intro j hj
  have := (World.ownsRow.lt r j hj).1
  have := h.lt
  have := h2.lt
  simp; omega
theorem row_at {w : World} {B : Nat} {v : Value} {xs : List Int} (h : IsRow w B v xs) (h0 : 0 < xs.length) : ∃ g c, v = .slice (some ⟨g, 0, none⟩) xs.length c ∧ xs.length ≤ c ∧ ∀ i, i < xs.length → w.cell? ⟨g, i, none⟩ = some (.int .u64 (nth xs i)) := by
  obtain ⟨a, c, rfl, hc, hn, hs⟩ := ownsRow_slice h
  cases a with
  | none => have := (hn rfl).1; omega
  | some ad =>
    obtain ⟨g, rfl, _, _, hcell⟩ := hs ad rfl
    exact ⟨g, c, rfl, hc, fun i hi => hcell _ _ (by simp [nth_some hi])⟩

set_option maxRecDepth 100000 in
set_option maxHeartbeats 8000000 in
theorem CoresGone_main (N many : Nat) (a : Option Addr) (c : Nat) (ps : List (Nat × Nat)) (x y : Nat) (w : World) (h : IsPairs w a ps) (hN : N < 256) (hm : many < 256)
    (hps : ∀ i, i < ps.length → (edge ps i).1 < 256 ∧ (edge ps i).2 < 256) (hx : x < 256) (hy : y < 256) (h1 : ps.length ≤ 300) :
    Calls Try.prog 8 #[.agg #[.int .u8 N, .slice a ps.length c], .int .u8 many, .agg #[.int .u8 x, .int .u8 y]] w fun e w' => e = .returned (.bool true) ∧ Kept [] w w' := by
  have d1' : decide ((300 : Int) < ps.length) = false := by simp; omega
  have HG := hid (graphy N ps h1)
  have HPS := hid hps; clear hps
  go_enter Try.func8, Try.ntmps8
  go_wp2_with fail
  have kb : Kept [] w ((w.alloc (.cells #[.int .u8 N, .slice a ps.length c] 24)).alloc (.cells #[.int .u8 x, .int .u8 y] 58)) := ((Kept.refl _ _).alloc _).alloc _
  refine (Made_ok N a c ps _ (h.ext kb) hN HPS.out h1).mono ?_
  obtain ⟨n, hn⟩ : ∃ n, n = 1 + N % 60 := ⟨_, rfl⟩
  obtain ⟨es, hes⟩ : ∃ es, es = normE (told n ps) := ⟨_, rfl⟩
  rw [← hn] at HG ⊢
  rw [← hes] at HG ⊢
  rintro e w1 ⟨v1, rfl, hk1, he1⟩
  have K1 := hid (kb.trans hk1)
  obtain ⟨ea, ec, rfl, hec, hen, hesm⟩ := he1.slice
  have E1 := hid he1
  have ES := hid hesm
  have KB := hid hk1
  have EN := hid hen
  clear hesm hen
  clear hk1 he1 hn hes kb
  have n1 := HG.out.n1
  have n60 := HG.out.n60
  have el := HG.out.len
  go_wp2_with fail
  refine (Shards_ok _ (.slice ea es.length ec) es n many _ E1.out n1 (by omega) hm (lead_rising HG.out.rise) (by have := HG.out.len; omega)).mono ?_
  rintro e w2 ⟨v2, rfl, hk2, hs2⟩
  have K2 := hid (K1.out.trans hk2)
  have E1K := hid hk2
  have E2 := hid (E1.out.ext hk2)
  obtain ⟨s, hs⟩ : ∃ s, s = parts n many := ⟨_, rfl⟩
  have s1 := parts_pos n many
  have s2 := parts_le many n1
  have s3 := parts_16 many n1
  rw [← hs] at hs2 s1 s2 s3
  obtain ⟨sa, sc, rfl, hsc⟩ := hs2.slice
  rw [cuts_length] at hsc hs2 ⊢
  have S2 := hid hs2
  clear hk2 hs2 hs
  have LC := hid (fun (w' : World) (k : Kept [] w2 w') => (show w'.cell? ⟨w.heap.size + 1, 0, none⟩ = some (.int .u8 x) ∧ w'.cell? ⟨w.heap.size + 1, 1, none⟩ = some (.int .u8 y) from by
    have ho : ((w.alloc (.cells #[.int .u8 N, .slice a ps.length c] 24)).alloc (.cells #[.int .u8 x, .int .u8 y] 58)).heap[w.heap.size + 1]? = some (.cells #[.int .u8 x, .int .u8 y] 58 (0, 0)) := new_obj (by simp)
    have ho2 := ((KB.out.trans E1K.out).trans k).obj ho (by simp)
    exact ⟨by rw [cell_of_obj ho2]; rfl, by rw [cell_of_obj ho2]; rfl⟩))
  obtain ⟨c0, c1⟩ := LC.out _ (Kept.refl _ _)
  go_wp2_with fail
  obtain ⟨low, hlow⟩ : ∃ low : Nat, min (x : Int) y % 12 = low := ⟨min x y % 12, by rw [Int.natCast_emod]; congr 1; omega⟩
  obtain ⟨high, hhigh⟩ : ∃ high : Nat, max (low : Int) (max (x : Int) y % 12) = high := ⟨max low (max x y % 12), by omega⟩
  rw [hlow, hhigh]
  have LH := hid (show low ≤ high ∧ high < 12 by omega)
  clear hlow hhigh c0 c1
  refine (Fresh_ok n w2 (by omega)).mono ?_
  rintro e w3 ⟨rfl, hk3, ht3, hz3⟩
  obtain ⟨ga, hga⟩ : ∃ ga, ga = w2.heap.size := ⟨_, rfl⟩
  obtain ⟨pa, hpa⟩ : ∃ pa, pa = w2.heap.size + 1 := ⟨_, rfl⟩
  obtain ⟨pb, hpb⟩ : ∃ pb, pb = w2.heap.size + 3 := ⟨_, rfl⟩
  obtain ⟨gb, hgb⟩ : ∃ gb, gb = w2.heap.size + 2 := ⟨_, rfl⟩
  rw [← hpa, ← hpb, ← hgb, ← hga] at ht3
  rw [← hpa, ← hpb]
  have G := hid (show w2.heap.size ≤ ga ∧ w2.heap.size ≤ gb ∧ w2.heap.size ≤ pa ∧ w2.heap.size ≤ pb ∧ ga < w3.heap.size ∧ gb < w3.heap.size ∧ pa < w3.heap.size ∧ pb < w3.heap.size by omega)
  have K3 := hid hk3
  have T3 := hid ht3
  clear hk3 ht3 hz3 hga hpa hpb hgb
  go_wp2_with fail
  refine (Fresh_ok n w3 (by omega)).mono ?_
  rintro e w4 ⟨rfl, hk4, ht4, hz4⟩
  obtain ⟨gc, hgc⟩ : ∃ gc, gc = w3.heap.size := ⟨_, rfl⟩
  obtain ⟨pc, hpc⟩ : ∃ pc, pc = w3.heap.size + 1 := ⟨_, rfl⟩
  obtain ⟨pd, hpd⟩ : ∃ pd, pd = w3.heap.size + 3 := ⟨_, rfl⟩
  obtain ⟨gd, hgd⟩ : ∃ gd, gd = w3.heap.size + 2 := ⟨_, rfl⟩
  rw [← hpc, ← hpd, ← hgd, ← hgc] at ht4
  rw [← hpc, ← hpd]
  have G2 := hid (show w2.heap.size ≤ gc ∧ w2.heap.size ≤ gd ∧ gc ≠ pa ∧ gc ≠ ga ∧ gc ≠ pb ∧ gc ≠ gb ∧ gd ≠ pa ∧ gd ≠ ga ∧ gd ≠ pb ∧ gd ≠ gb ∧ ga ≠ pc ∧ ga ≠ gc ∧ ga ≠ pd ∧ ga ≠ gd ∧ gb ≠ pc ∧ gb ≠ gc ∧ gb ≠ pd ∧ gb ≠ gd by have := G.out; have := K3.out.size; omega)
  have K4 := hid (K3.out.trans hk4)
  have T4 := hid (T3.out.ext hk4)
  have U4 := hid ht4
  clear hk4 ht4 hz4 hgc hpc hpd hgd
  have z1 : (zeros n).length = n := by simp [zeros]
  have G5 := hid (show pc ≠ ga ∧ gc ≠ ga ∧ pd ≠ ga ∧ gd ≠ ga by have := G2.out; omega)
  have G6 := hid (show pc ≠ gb ∧ gc ≠ gb ∧ pd ≠ gb ∧ gd ≠ gb by have := G2.out; omega)
  have G7 := hid (show pa ≠ gc ∧ ga ≠ gc ∧ pb ≠ gc ∧ gb ≠ gc by have := G2.out; omega)
  have G8 := hid (show pa ≠ gd ∧ ga ≠ gd ∧ pb ≠ gd ∧ gb ≠ gd by have := G2.out; omega)
  have nz : ¬ s = 0 := by omega
  have nzb : ((s : Int) == 0) = false := by simp; omega
  go_wp2_with fail
  refine (coresBegin_ok pa pb ga gb (zeros n) (zeros n) low w4 T4.out rfl (by omega) (by omega) (by have := LH.out; omega)).mono ?_
  rintro e w5 ⟨rfl, hk5, ht5⟩
  rw [z1] at ht5
  have K5 := hid ((K4.out.of_nil.trans hk5).to_nil (by simp; exact ⟨G.out.1, G.out.2.1⟩) : Kept [] w2 w5)
  have T5 := hid (show Two w5 pa ga pb gb (coreRow es n low 0) (tab (fun _ => 0) n) from ht5)
  have U5 := hid (U4.out.kept hk5 (by simp; exact ⟨⟨G5.out.1, G6.out.1⟩, ⟨G5.out.2.1, G6.out.2.1⟩, ⟨G5.out.2.2.1, G6.out.2.2.1⟩, G5.out.2.2.2, G6.out.2.2.2⟩))
  clear hk5 ht5
  go_wp2_with fail
  refine (coresBegin_ok pc pd gc gd (zeros n) (zeros n) high w5 U5.out rfl (by omega) (by omega) (by have := LH.out; omega)).mono ?_
  rintro e w6 ⟨rfl, hk6, ht6⟩
  rw [z1] at ht6
  have K6 := hid ((K5.out.of_nil.trans hk6).to_nil (by simp; exact ⟨G2.out.1, G2.out.2.1⟩) : Kept [] w2 w6)
  have U6 := hid (show Two w6 pc gc pd gd (coreRow es n high 0) (tab (fun _ => 0) n) from ht6)
  have T6 := hid (T5.out.kept hk6 (by simp; exact ⟨⟨G7.out.1, G8.out.1⟩, ⟨G7.out.2.1, G8.out.2.1⟩, ⟨G7.out.2.2.1, G8.out.2.2.1⟩, G7.out.2.2.2, G8.out.2.2.2⟩))
  clear hk6 ht6
  go_wp2_with fail
  refine (Read_ok pa ga (coreRow es n low 0) _ T6.out.cur (by rw [coreRow_length]; omega)).mono ?_
  rintro e w7 ⟨v7, rfl, hk7, hr7⟩
  have K7 := hid (K6.out.trans hk7)
  have O7 := hid (off_four T6.out U6.out hr7)
  have R7 := hid (ownsRow_base hr7 (Nat.zero_le _))
  have T7 := hid (T6.out.ext hk7)
  have U7 := hid (U6.out.ext hk7)
  clear hk7 hr7
  go_wp2_with fail
  go_loopw [16, 17] (fun v i wr => ∃ r : Nat, r ≤ 4 ∧ i = .int .i64 r ∧ Kept [] w2 wr ∧ Two wr pa ga pb gb (coreRow es n low r) (tab (fun _ => 0) n) ∧ Two wr pc gc pd gd (coreRow es n high r) (tab (fun _ => 0) n) ∧ IsRow wr 0 v (coreRow es n low r) ∧ OffL v [ga, gb, gc, gd]) (fun _ i _ => 4 - (intOf i).toNat)
  case atStart => exact ⟨0, by omega, rfl, K7.out, T7.out, U7.out, R7.out, O7.out⟩
  case round =>
    clear T7 U7 R7 O7 K7 T6 U6 K6 T5 U5 K5
    obtain ⟨r, hr, rfl, hK, hT, hU, hR, hO⟩ := hrel
    have K := hid hK
    have T := hid hT
    have U := hid hU
    have R := hid hR
    have O := hid hO
    clear hK hT hU hR hO
    by_cases hrl : r < 4
    · have d3 : decide ((r : Int) < 4) = true := by simp; omega
      have xl := hid (coreRow_length es n low r)
      have zl := hid (coreRow_length es n high r)
      obtain ⟨X, hX⟩ : ∃ X, X = coreRow es n low r := ⟨_, rfl⟩
      obtain ⟨Z, hZ⟩ : ∃ Z, Z = coreRow es n high r := ⟨_, rfl⟩
      have HX := hid hX
      have HZ := hid hZ
      rw [← hX] at T R xl
      rw [← hZ] at U zl
      clear hX hZ
      obtain ⟨va, vc, rfl, hvc, _⟩ := ownsRow_slice R.out
      go_wp2_with fail
      go_loopw [18] (fun i wq => ∃ j : Nat, j ≤ s ∧ i = .int .i64 j ∧ Kept [] w2 wq ∧ Two wq pa ga pb gb X (coresShard X (tab (fun _ => 0) n) (((cuts n s).take j).flatMap (shardEdges es))) ∧ Two wq pc gc pd gd Z (coresShard Z (tab (fun _ => 0) n) (((cuts n s).take j).flatMap (shardEdges es))) ∧ IsRow wq 0 (.slice va X.length vc) X) (fun i _ => s - (intOf i).toNat)
      case atStart => exact ⟨0, Nat.zero_le _, rfl, K.out, T.out, U.out, R.out⟩
      case round =>
        obtain ⟨j, hj, rfl, hK, hT, hU, hR⟩ := hrel
        have K := hid hK
        have T := hid hT
        have U := hid hU
        have R := hid hR
        clear hK hT hU hR
        have yl := hid (show (coresShard X (tab (fun _ => 0) n) (((cuts n s).take j).flatMap (shardEdges es))).length = n by rw [coresShard_length, tab_length])
        have tl := hid (show (coresShard Z (tab (fun _ => 0) n) (((cuts n s).take j).flatMap (shardEdges es))).length = n by rw [coresShard_length, tab_length])
        by_cases hjl : j < s
        · obtain ⟨sg, fr, m, bo, rfl, hcut, hmn, hsh⟩ := S2.out.shard s1 s2 hjl K.out [ga, gb, gc, gd] (by simp; exact ⟨G.out.1, G.out.2.1, G2.out.1, G2.out.2.1⟩)
          have C := hid (fun (X : List Int) => (show coresShard X (tab (fun _ => 0) n) (((cuts n s).take (j + 1)).flatMap (shardEdges es)) = coresShard X (coresShard X (tab (fun _ => 0) n) (((cuts n s).take j).flatMap (shardEdges es))) (edgesOf fr (rowsOf es fr m)) by
            rw [shards_next es hjl, shardEdges_at hcut]; unfold coresShard; rw [List.foldl_append]))
          have q0 := hsh.c0
          have q1 := hsh.c1
          have q2 := hsh.c2
          have SH := hid hsh
          have SG := hid (show sg ∉ [gb] by have := S2.out.lt s1 s2; have := G.out; simp; omega)
          have rl := hid (rowsOf_length es fr m)
          clear hcut hsh
          have hcs := coresShard_ok [ga, gb, gc, gd] pa pb ga gb _ _ fr ((fr + m : Nat) : Int) (some ⟨bo, 0, none⟩) m (rowsOf es fr m) r wr T.out (by rw [xl.out, yl.out]) (by rw [xl.out]; omega) (by rw [xl.out]; omega) SH.out.out (by simp) (by rw [xl.out]; omega) (by rw [rl.out]; omega) (by rw [rl.out]; omega) (by rw [xl.out]; exact HG.out.within fr m) (HG.out.short fr m)
          rw [rl.out] at hcs
          have HC := hid hcs
          clear hcs
          go_wp2_with fail
          refine HC.out.mono ?_
          rintro e w5 ⟨rfl, hk5, ht5⟩
          have K5 := hid ((K.out.of_nil.trans hk5).to_nil (by simp; exact G.out.2.1))
          have T5 := hid ht5
          have U5 := hid (U.out.kept hk5 (by simp; exact G6.out))
          have R5 := hid (ownsRow_kept R.out hk5 (fun i hi => by have := O.out i hi; simp at this ⊢; omega))
          have SH5 := hid (SH.out.kept hk5 SG.out (by simp))
          clear hk5 ht5 q0 q1 q2 HC
          have q0 := SH5.out.c0
          have q1 := SH5.out.c1
          have q2 := SH5.out.c2
          have hcs := coresShard_ok [ga, gb, gc, gd] pc pd gc gd _ _ fr ((fr + m : Nat) : Int) (some ⟨bo, 0, none⟩) m (rowsOf es fr m) r w5 U5.out (by rw [zl.out, tl.out]) (by rw [zl.out]; omega) (by rw [zl.out]; omega) SH5.out.out (by simp) (by rw [zl.out]; omega) (by rw [rl.out]; omega) (by rw [rl.out]; omega) (by rw [zl.out]; exact HG.out.within fr m) (HG.out.short fr m)
          rw [rl.out] at hcs
          have HC := hid hcs
          clear hcs
          go_wp2_with fail
          refine HC.out.mono ?_
          rintro e w6 ⟨rfl, hk6, ht6⟩
          have K6 := hid ((K5.out.of_nil.trans hk6).to_nil (by simp; exact G2.out.2.1))
          have U6 := hid ht6
          have T6 := hid (T5.out.kept hk6 (by simp; exact G8.out))
          have R6 := hid (ownsRow_kept R5.out hk6 (fun i hi => by have := O.out i hi; simp at this ⊢; omega))
          clear hk6 ht6
          go_wp2
          exact ⟨⟨j + 1, by omega, by go_num, K6.out, by rw [C.out]; exact T6.out, by rw [C.out]; exact U6.out, R6.out⟩, by simp [intOf]; omega⟩
        · have CT := hid (show ((cuts n s).take j).flatMap (shardEdges es) = tri es n by
            rw [List.take_of_length_le (by rw [cuts_length]; omega), shards_all es s1])
          rw [CT.out] at T U yl tl
          obtain ⟨Y, hY⟩ : ∃ Y, Y = coresShard X (tab (fun _ => 0) n) (tri es n) := ⟨_, rfl⟩
          obtain ⟨V, hV⟩ : ∃ V, V = coresShard Z (tab (fun _ => 0) n) (tri es n) := ⟨_, rfl⟩
          have HY := hid (show Y = coreAcc es n low r by rw [hY, HX.out]; rfl)
          have HV := hid (show V = coreAcc es n high r by rw [hV, HZ.out]; rfl)
          rw [← hY] at T yl
          rw [← hV] at U tl
          clear hY hV CT
          go_wp2_with fail
          refine (coresCommit_ok pa pb ga gb X Y low r _ T.out (by rw [xl.out, yl.out]) (by rw [xl.out]; omega) (by rw [xl.out]; omega) (by have := LH.out; omega)).mono ?_
          rintro e w5 ⟨rfl, hk5, ht5⟩
          rw [xl.out] at ht5
          have K5 := hid ((K.out.of_nil.trans hk5).to_nil (by simp; exact ⟨G.out.1, G.out.2.1⟩))
          have T5 := hid (show Two w5 pa ga pb gb (coreRow es n low (r + 1)) (tab (fun _ => 0) n) by rw [coreRow_succ, ← HY.out, ← HX.out]; exact ht5)
          have U5 := hid (U.out.kept hk5 (by simp; exact ⟨⟨G5.out.1, G6.out.1⟩, ⟨G5.out.2.1, G6.out.2.1⟩, ⟨G5.out.2.2.1, G6.out.2.2.1⟩, G5.out.2.2.2, G6.out.2.2.2⟩))
          have R5 := hid (ownsRow_kept R.out hk5 (fun i hi => by have := O.out i hi; simp at this ⊢; omega))
          clear hk5 ht5
          go_wp2_with fail
          refine (coresCommit_ok pc pd gc gd Z V high r _ U5.out (by rw [zl.out, tl.out]) (by rw [zl.out]; omega) (by rw [zl.out]; omega) (by have := LH.out; omega)).mono ?_
          rintro e w6 ⟨rfl, hk6, ht6⟩
          rw [zl.out] at ht6
          have K6 := hid ((K5.out.of_nil.trans hk6).to_nil (by simp; exact ⟨G2.out.1, G2.out.2.1⟩))
          have U6 := hid (show Two w6 pc gc pd gd (coreRow es n high (r + 1)) (tab (fun _ => 0) n) by rw [coreRow_succ, ← HV.out, ← HZ.out]; exact ht6)
          have T6 := hid (T5.out.kept hk6 (by simp; exact ⟨⟨G7.out.1, G8.out.1⟩, ⟨G7.out.2.1, G8.out.2.1⟩, ⟨G7.out.2.2.1, G8.out.2.2.1⟩, G7.out.2.2.2, G8.out.2.2.2⟩))
          have R6 := hid (ownsRow_kept R5.out hk6 (fun i hi => by have := O.out i hi; simp at this ⊢; omega))
          clear hk6 ht6
          have nl := hid (coreRow_length es n low (r + 1))
          have ol := hid (coreRow_length es n high (r + 1))
          have DN := hid (fun (v : Nat) (hv : v < n) => coreRow_down es n low r v hv)
          have LS := hid (fun (v : Nat) (hv : v < n) => coreRow_less HG.out LH.out.1 (r + 1) v hv)
          rw [← HX.out] at DN
          obtain ⟨A, hA⟩ : ∃ A, A = coreRow es n low (r + 1) := ⟨_, rfl⟩
          obtain ⟨B, hB⟩ : ∃ B, B = coreRow es n high (r + 1) := ⟨_, rfl⟩
          have HA := hid hA
          have HB := hid hB
          rw [← hA] at T6 nl DN LS
          rw [← hB] at U6 ol LS
          clear hA hB
          go_wp2_with fail
          refine (Read_ok pa ga A _ T6.out.cur (by rw [nl.out]; omega)).mono ?_
          rintro e w7 ⟨v7, rfl, hk7, hr7⟩
          have K7 := hid (K6.out.trans hk7)
          have O7 := hid (off_four T6.out U6.out hr7)
          have V7 := hid (ownsRow_base hr7 (Nat.zero_le _))
          have T7 := hid (T6.out.ext hk7)
          have U7 := hid (U6.out.ext hk7)
          have R7 := hid (ownsRow_kept R6.out hk7 (by simp))
          clear hk7 hr7
          go_wp2_with fail
          refine (Read_ok pc gc B _ U7.out.cur (by rw [ol.out]; omega)).mono ?_
          rintro e w8 ⟨v8, rfl, hk8, hr8⟩
          have K8 := hid (K7.out.trans hk8)
          have W8 := hid (ownsRow_base hr8 (Nat.zero_le _))
          have V8 := hid (ownsRow_kept V7.out hk8 (by simp))
          have T8 := hid (T7.out.ext hk8)
          have U8 := hid (U7.out.ext hk8)
          have R8 := hid (ownsRow_kept R7.out hk8 (by simp))
          clear hk8 hr8
          obtain ⟨gy, cy, rfl, hcy, CY⟩ := row_at V8.out (by rw [nl.out]; omega)
          obtain ⟨go, co, rfl, hco, CO⟩ := row_at W8.out (by rw [ol.out]; omega)
          obtain ⟨gx, cx, ev, hcx, CX⟩ := row_at R8.out (by rw [xl.out]; omega)
          simp only [Value.slice.injEq] at ev
          obtain ⟨rfl, _, rfl⟩ := ev
          have CYH := hid CY
          have COH := hid CO
          have CXH := hid CX
          clear CY CO CX
          have le1 : ((A.length : Int) != n) = false := by rw [nl.out]; simp
          have le2 : ((B.length : Int) != n) = false := by rw [ol.out]; simp
          go_wp2_with fail
          go_loopw [25] (fun i wq => ∃ k : Nat, k ≤ n ∧ i = .int .i64 k ∧ Kept [] w8 wq) (fun i _ => n - (intOf i).toNat)
          case atStart => exact ⟨0, Nat.zero_le _, rfl, Kept.refl _ _⟩
          case round =>
            obtain ⟨k, hk, rfl, hK⟩ := hrel
            have KQ := hid hK
            by_cases hkl : k < n
            · have d4 : decide ((k : Int) < n) = true := by simpa using hkl
              have ky : k < A.length := by rw [nl.out]; exact hkl
              have ko : k < B.length := by rw [ol.out]; exact hkl
              have kx : k < X.length := by rw [xl.out]; exact hkl
              have p0 := hK.cell_some (CYH.out k ky) (by simp)
              have p1 := hK.cell_some (COH.out k ko) (by simp)
              have p2 := hK.cell_some (CXH.out k kx) (by simp)
              have e1 := DN.out k hkl
              have e2 := LS.out k hkl
              generalize nth A k = x1 at *
              generalize nth B k = x2 at *
              generalize nth X k = x3 at *
              have d5 : decide (x3 < x1) = false := by simpa using e1
              have d6 : decide (x1 < x2) = false := by simpa using e2
              clear hK e1 e2
              go_wp2_with fail
              go_quiet (fail)
              have KQ2 := hid (KQ.out.drewN nq)
              go_wp2
              exact ⟨⟨k + 1, by omega, by go_num, KQ2.out⟩, by simp [intOf]; omega⟩
            · have d4 : decide ((k : Int) < n) = false := by simpa using hkl
              have K9 := hid (K8.out.trans KQ.out)
              have T9 := hid (show Two wr pa ga pb gb (coreRow es n low (r + 1)) (tab (fun _ => 0) n) by rw [← HA.out]; exact T8.out.ext KQ.out)
              have U9 := hid (show Two wr pc gc pd gd (coreRow es n high (r + 1)) (tab (fun _ => 0) n) by rw [← HB.out]; exact U8.out.ext KQ.out)
              have V9 := hid (show IsRow wr 0 (.slice (some ⟨gy, 0, none⟩) A.length cy) (coreRow es n low (r + 1)) by rw [← HA.out]; exact ownsRow_kept V8.out KQ.out (by simp))
              clear hK
              go_wp2
              exact ⟨⟨r + 1, by omega, by go_num, K9.out, T9.out, U9.out, V9.out, O7.out⟩, by simp [intOf]; omega⟩
    · have d3 : decide ((r : Int) < 4) = false := by simp; omega
      go_wp2_with fail
      refine (coresEnds_ok _).mono ?_
      rintro e w7 ⟨rfl, hk7⟩
      have K7 := hid ((K2.out.trans K.out).trans hk7)
      clear hk7
      go_wp2_with fail
      go_ret
      exact ⟨rfl, K7.out⟩

set_option maxRecDepth 100000 in
set_option maxHeartbeats 2000000 in
theorem CoresGone_ok (N many : Nat) (a : Option Addr) (c : Nat) (ps : List (Nat × Nat)) (x y : Nat) (w : World) (h : IsPairs w a ps) (hN : N < 256) (hm : many < 256)
    (hps : ∀ i, i < ps.length → (edge ps i).1 < 256 ∧ (edge ps i).2 < 256) (hx : x < 256) (hy : y < 256) :
    Calls Try.prog 8 #[.agg #[.int .u8 N, .slice a ps.length c], .int .u8 many, .agg #[.int .u8 x, .int .u8 y]] w fun e w' => e = .returned (.bool true) ∧ Kept [] w w' := by
  by_cases h1 : ps.length ≤ 300
  · exact CoresGone_main N many a c ps x y w h hN hm hps hx hy h1
  · have g1 : decide ((300 : Int) < ps.length) = true := by simp; omega
    go_enter Try.func8, Try.ntmps8
    go_wp2_with fail
    have kb : Kept [] w ((w.alloc (.cells #[.int .u8 N, .slice a ps.length c] 24)).alloc (.cells #[.int .u8 x, .int .u8 y] 58)) := ((Kept.refl _ _).alloc _).alloc _
    refine (coresEnds_ok _).mono ?_
    rintro e w7 ⟨rfl, hk7⟩
    have K7 := hid (kb.trans hk7)
    clear hk7 kb
    go_wp2_with fail
    go_ret
    exact ⟨rfl, K7.out⟩
end Go.Proofs.Ytedljgohmlilgaa
