/-
  The walk of carousellaw17.BfsOften.
-/
import Derived.Test.YtedljgohmlilgaaOrdW
import Derived.Test.YtedljgohmlilgaaEndB
import Derived.Test.YtedljgohmlilgaaBfsB
import Derived.Test.YtedljgohmlilgaaBfsT
import Derived.Test.YtedljgohmlilgaaBfsD
namespace Go.Proofs.Ytedljgohmlilgaa
open Go.RowKit
set_option linter.unusedVariables false

/-- The block of a slice is none of these. -/
def OffL (v : Value) (L : List Nat) : Prop := ∀ j, v.ownBlock = some j → j ∉ L
theorem mods_lt {ms : List Nat} {s : Nat} (h : 1 ≤ s) : ∀ i ∈ ms.map (· % s), i < s := by
  intro i hi
  obtain ⟨x, _, rfl⟩ := List.mem_map.1 hi
  exact Nat.mod_lt _ h
theorem mods_next {ms : List Nat} {s k : Nat} (h : k < ms.length) : (ms.map (· % s)).take (k + 1) = (ms.map (· % s)).take k ++ [nat ms k % s] := by
  rw [List.take_succ_eq_append_getElem (by simpa using h), nat_eq h]; simp
theorem tour_cuts {es : List (Nat × Nat)} {n s k : Nat} (h : k ≤ s) : tour es n s ((List.range s).take k) = ((cuts n s).take k).flatMap (shardEdges es) := by
  unfold tour cuts
  rw [← List.map_take, List.flatMap_map]

set_option maxRecDepth 100000 in
set_option maxHeartbeats 16000000 in
theorem BfsOften_main (N : Nat) (a : Option Addr) (c : Nat) (ps : List (Nat × Nat)) (M A : Nat) (a1 b1 : Option Addr) (c1 d1 : Nat) (bs ms : List Nat) (w : World) (h : IsPairs w a ps) (hbs : IsBytes w a1 bs) (hms : IsBytes w b1 ms) (hN : N < 256)
    (hps : ∀ i, i < ps.length → (edge ps i).1 < 256 ∧ (edge ps i).2 < 256) (hM : M < 256) (hA : A < 256) (hbb : ∀ i, i < bs.length → nat bs i < 256) (hmm : ∀ i, i < ms.length → nat ms i < 256) (hbl : bs.length ≤ maxLen) (hml : ms.length ≤ maxLen) (h1 : ps.length ≤ 300) (h2 : bs.length ≤ 50) (h3 : ms.length ≤ 20) :
    Calls Try.prog 7 #[.agg #[.int .u8 N, .slice a ps.length c], .agg #[.int .u8 M, .int .u8 A, .slice a1 bs.length c1, .slice b1 ms.length d1]] w fun e w' => e = .returned (.bool true) ∧ Kept [] w w' := by
  have d1' : decide ((300 : Int) < ps.length) = false := by simp; omega
  have HG := hid (graphy N ps h1)
  have HPS := hid hps; clear hps
  have HBB := hid hbb; clear hbb
  have HMM := hid hmm; clear hmm
  have D0 := hid (show (decide (50 < bs.length) || decide (20 < ms.length)) = false by simp; omega)
  have lc := hid (fun (w' : World) (k : Kept [] ((w.alloc (.cells #[.int .u8 N, .slice a ps.length c] 24)).alloc (.cells #[.int .u8 M, .int .u8 A, .slice a1 bs.length c1, .slice b1 ms.length d1] 62)) w') => (show w'.cell? ⟨w.heap.size + 1, 0, none⟩ = some (.int .u8 M) ∧ w'.cell? ⟨w.heap.size + 1, 1, none⟩ = some (.int .u8 A) ∧ w'.cell? ⟨w.heap.size + 1, 2, none⟩ = some (.slice a1 bs.length c1) ∧ w'.cell? ⟨w.heap.size + 1, 3, none⟩ = some (.slice b1 ms.length d1) from by
    have ho : ((w.alloc (.cells #[.int .u8 N, .slice a ps.length c] 24)).alloc (.cells #[.int .u8 M, .int .u8 A, .slice a1 bs.length c1, .slice b1 ms.length d1] 62)).heap[w.heap.size + 1]? = some (.cells #[.int .u8 M, .int .u8 A, .slice a1 bs.length c1, .slice b1 ms.length d1] 62 (0, 0)) := new_obj (by simp)
    have ho2 := k.obj ho (by simp)
    exact ⟨by rw [cell_of_obj ho2]; rfl, by rw [cell_of_obj ho2]; rfl, by rw [cell_of_obj ho2]; rfl, by rw [cell_of_obj ho2]; rfl⟩))
  go_enter Try.func7, Try.ntmps7
  go_wp2_with fail
  refine (Great_ok M A a1 b1 bs ms c1 d1 _ hbl hml).mono ?_
  rintro e wg ⟨rfl, hkg⟩
  rw [D0.out]
  have KG := hid hkg
  have ob := hkg.obj (obj_alloc_old (new_obj rfl) _ : ((w.alloc (.cells #[.int .u8 N, .slice a ps.length c] 24)).alloc (.cells #[.int .u8 M, .int .u8 A, .slice a1 bs.length c1, .slice b1 ms.length d1] 62)).heap[w.heap.size]? = some (.cells #[.int .u8 N, .slice a ps.length c] 24 (0, 0))) (by simp)
  have b0 : wg.cell? ⟨w.heap.size, 0, none⟩ = some (.int .u8 N) := cell_of_obj ob 0
  have b1 : wg.cell? ⟨w.heap.size, 1, none⟩ = some (.slice a ps.length c) := cell_of_obj ob 1
  clear ob
  go_wp2_with fail
  clear b0 b1
  have kb : Kept [] w wg := ((Kept.refl _ _).alloc _).alloc _ |>.trans hkg
  refine (Made_ok N a c ps _ (h.ext kb) hN HPS.out h1).mono ?_
  obtain ⟨n, hn⟩ : ∃ n, n = 1 + N % 60 := ⟨_, rfl⟩
  obtain ⟨es, hes⟩ : ∃ es, es = normE (told n ps) := ⟨_, rfl⟩
  rw [← hn] at HG ⊢
  rw [← hes] at HG ⊢
  rintro e w1 ⟨v1, rfl, hk1, he1⟩
  have K1 := hid (kb.trans hk1)
  obtain ⟨ea, ec, rfl, hec, hen, hesm⟩ := he1.slice
  have E1 := hid he1
  have ES := hid hesm
  have KB := hid hk1
  have EN := hid hen
  clear hesm hen
  clear hk1 he1 hn hes kb hkg
  have n1 := HG.out.n1
  have n60 := HG.out.n60
  have el := HG.out.len
  have LC1 := hid (show Kept [] ((w.alloc (.cells #[.int .u8 N, .slice a ps.length c] 24)).alloc (.cells #[.int .u8 M, .int .u8 A, .slice a1 bs.length c1, .slice b1 ms.length d1] 62)) w1 from KG.out.trans KB.out)
  obtain ⟨c0, ca, c2, c3⟩ := lc.out _ LC1.out
  go_wp2_with fail
  refine (Shards_ok _ (.slice ea es.length ec) es n M _ E1.out n1 (by omega) hM (lead_rising HG.out.rise) (by have := HG.out.len; omega)).mono ?_
  rintro e w2 ⟨v2, rfl, hk2, hs2⟩
  have K2 := hid (K1.out.trans hk2)
  have E1K := hid hk2
  have E2 := hid (E1.out.ext hk2)
  obtain ⟨s, hs⟩ : ∃ s, s = parts n M := ⟨_, rfl⟩
  have s1 := parts_pos n M
  have s2 := parts_le M n1
  have s3 := parts_16 M n1
  rw [← hs] at hs2 s1 s2 s3
  obtain ⟨sa, sc, rfl, hsc⟩ := hs2.slice
  rw [cuts_length] at hsc hs2 ⊢
  have S2 := hid hs2
  clear hk2 hs2 hs
  have LC := hid (fun (w' : World) (k : Kept [] w2 w') => lc.out w' ((LC1.out.trans E1K.out).trans k))
  clear c0 ca c2 c3
  have nz : ¬ s = 0 := by omega
  have nzb : ((s : Int) == 0) = false := by simp; omega
  go_wp2_with fail
  refine (Fresh_ok n w2 (by omega)).mono ?_
  rintro e w3 ⟨rfl, hk3, ht3, hz3⟩
  obtain ⟨ga, hga⟩ : ∃ ga, ga = w2.heap.size := ⟨_, rfl⟩
  obtain ⟨pa, hpa⟩ : ∃ pa, pa = w2.heap.size + 1 := ⟨_, rfl⟩
  obtain ⟨pb, hpb⟩ : ∃ pb, pb = w2.heap.size + 3 := ⟨_, rfl⟩
  obtain ⟨gb, hgb⟩ : ∃ gb, gb = w2.heap.size + 2 := ⟨_, rfl⟩
  rw [← hpa, ← hpb, ← hgb, ← hga] at ht3
  rw [← hpa, ← hpb]
  have G := hid (show w2.heap.size ≤ ga ∧ w2.heap.size ≤ gb ∧ w2.heap.size ≤ pa ∧ w2.heap.size ≤ pb ∧ ga < w3.heap.size ∧ gb < w3.heap.size ∧ pa < w3.heap.size ∧ pb < w3.heap.size by omega)
  have K3 := hid hk3
  have T3 := hid ht3
  clear hk3 ht3 hz3 hga hpa hpb hgb
  go_wp2_with fail
  refine (Fresh_ok n w3 (by omega)).mono ?_
  rintro e w4 ⟨rfl, hk4, ht4, hz4⟩
  obtain ⟨gc, hgc⟩ : ∃ gc, gc = w3.heap.size := ⟨_, rfl⟩
  obtain ⟨pc, hpc⟩ : ∃ pc, pc = w3.heap.size + 1 := ⟨_, rfl⟩
  obtain ⟨pd, hpd⟩ : ∃ pd, pd = w3.heap.size + 3 := ⟨_, rfl⟩
  obtain ⟨gd, hgd⟩ : ∃ gd, gd = w3.heap.size + 2 := ⟨_, rfl⟩
  rw [← hpc, ← hpd, ← hgd, ← hgc] at ht4
  rw [← hpc, ← hpd]
  have G2 := hid (show w2.heap.size ≤ gc ∧ w2.heap.size ≤ gd ∧ gc ≠ pa ∧ gc ≠ ga ∧ gc ≠ pb ∧ gc ≠ gb ∧ gd ≠ pa ∧ gd ≠ ga ∧ gd ≠ pb ∧ gd ≠ gb ∧ ga ≠ pc ∧ ga ≠ gc ∧ ga ≠ pd ∧ ga ≠ gd ∧ gb ≠ pc ∧ gb ≠ gc ∧ gb ≠ pd ∧ gb ≠ gd by have := G.out; have := K3.out.size; omega)
  have K4 := hid (K3.out.trans hk4)
  have T4 := hid (T3.out.ext hk4)
  have U4 := hid ht4
  clear hk4 ht4 hz4 hgc hpc hpd hgd
  have z1 : (zeros n).length = n := by simp [zeros]
  have G5 := hid (show pc ≠ ga ∧ gc ≠ ga ∧ pd ≠ ga ∧ gd ≠ ga by have := G2.out; omega)
  have G6 := hid (show pc ≠ gb ∧ gc ≠ gb ∧ pd ≠ gb ∧ gd ≠ gb by have := G2.out; omega)
  have G7 := hid (show pa ≠ gc ∧ ga ≠ gc ∧ pb ≠ gc ∧ gb ≠ gc by have := G2.out; omega)
  have G8 := hid (show pa ≠ gd ∧ ga ≠ gd ∧ pb ≠ gd ∧ gb ≠ gd by have := G2.out; omega)
  go_wp2_with fail
  refine (bfsBegin_ok pa pb ga gb (zeros n) (zeros n) 0 w4 T4.out rfl (by omega) (by omega) (by omega)).mono ?_
  rintro e w5 ⟨rfl, hk5, ht5⟩
  rw [z1] at ht5
  have K5 := hid ((K4.out.of_nil.trans hk5).to_nil (by simp; exact ⟨G.out.1, G.out.2.1⟩) : Kept [] w2 w5)
  have T5 := hid ht5
  have U5 := hid (U4.out.kept hk5 (by simp; exact ⟨⟨G5.out.1, G6.out.1⟩, ⟨G5.out.2.1, G6.out.2.1⟩, ⟨G5.out.2.2.1, G6.out.2.2.1⟩, G5.out.2.2.2, G6.out.2.2.2⟩))
  clear hk5 ht5
  go_wp2_with fail
  refine (bfsBegin_ok pc pd gc gd (zeros n) (zeros n) 0 w5 U5.out rfl (by omega) (by omega) (by omega)).mono ?_
  rintro e w6 ⟨rfl, hk6, ht6⟩
  rw [z1] at ht6
  have K6 := hid ((K5.out.of_nil.trans hk6).to_nil (by simp; exact ⟨G2.out.1, G2.out.2.1⟩) : Kept [] w2 w6)
  have U6 := hid ht6
  have T6 := hid (T5.out.kept hk6 (by simp; exact ⟨⟨G7.out.1, G8.out.1⟩, ⟨G7.out.2.1, G8.out.2.1⟩, ⟨G7.out.2.2.1, G8.out.2.2.1⟩, G7.out.2.2.2, G8.out.2.2.2⟩))
  clear hk6 ht6
  obtain ⟨c0, ca, c2, c3⟩ := LC.out _ K6.out
  go_wp2_with fail
  refine (Order_ok s a1 c1 bs _ ((hbs.ext K2.out).ext K6.out) s1 (by omega) HBB.out (by omega)).mono ?_
  rintro e w7 ⟨v7, rfl, hk7, ho7⟩
  have K7 := hid (K6.out.trans hk7)
  have T7 := hid (T6.out.ext hk7)
  have U7 := hid (U6.out.ext hk7)
  have OF := hid (show OffL v7 [ga, gb, gc, gd] by
    intro j hj
    have := (World.ownsRow.lt ho7 j hj).1
    have := T6.out.lt
    have := U6.out.lt
    simp; omega)
  have ol := hid (order_length bs s)
  have op := hid (order_perm bs s)
  have lt := hid (fun (i : Nat) (hi : i < s) => order_lt (bs := bs) hi)
  obtain ⟨O, hO⟩ : ∃ O, O = order bs s := ⟨_, rfl⟩
  rw [← hO] at ho7 ol op lt
  have I7 := hid (ownsRow_base ho7 (Nat.zero_le _))
  obtain ⟨og, oc, rfl, _, _⟩ := World.ownsRow.form ho7 (by rw [ol.out]; omega)
  clear hk7 ho7 hO c0 ca c2 c3 T5 U5 K5 T6 U6 K6 T4 U4 K4 T3 K3
  go_wp2_with fail
  go_loopw [13] (fun i wr => ∃ r : Nat, ∃ X : List Int, r ≤ 3 ∧ X.length = n ∧ i = .int .i64 r ∧ Kept [] w2 wr ∧ Two wr pa ga pb gb X (tab (fun _ => far) n) ∧ Two wr pc gc pd gd X (tab (fun _ => far) n) ∧ IsInts wr 0 (.slice (some ⟨og, 0, none⟩) O.length oc) O) (fun i _ => 3 - (intOf i).toNat)
  case atStart => exact ⟨0, _, by omega, tab_length _ _, rfl, K7.out, T7.out, U7.out, I7.out⟩
  case round =>
    clear T7 U7 I7 K7
    obtain ⟨r, X, hr, hXl, rfl, hK, hT, hU, hI⟩ := hrel
    have K := hid hK
    have T := hid hT
    have U := hid hU
    have I := hid hI
    have xl := hid hXl
    clear hK hT hU hI hXl
    by_cases hrl : r < 3
    · have d3 : decide ((r : Int) < 3) = true := by simp; omega
      obtain ⟨Fr, hFr⟩ : ∃ F, F = tab (fun _ => far) n := ⟨_, rfl⟩
      have fl := hid (show Fr.length = n by rw [hFr, tab_length])
      have HFr := hid hFr
      rw [← hFr] at T U
      clear hFr
      go_wp2_with fail
      go_loopw [14] (fun i wq => ∃ j : Nat, j ≤ s ∧ i = .int .i64 j ∧ Kept [] w2 wq ∧ Two wq pa ga pb gb X (bfsShard r X Fr (tour es n s ((List.range s).take j))) ∧ Two wq pc gc pd gd X (bfsShard r X Fr (tour es n s (O.take j))) ∧ IsInts wq 0 (.slice (some ⟨og, 0, none⟩) O.length oc) O) (fun i _ => s - (intOf i).toNat)
      case atStart => exact ⟨0, Nat.zero_le _, rfl, K.out, T.out, U.out, I.out⟩
      case round =>
        obtain ⟨j, hj, rfl, hK, hT, hU, hI⟩ := hrel
        have K := hid hK
        have T := hid hT
        have U := hid hU
        have I := hid hI
        clear hK hT hU hI
        have yl := hid (show (bfsShard r X Fr (tour es n s ((List.range s).take j))).length = n by rw [bfsShard_length, fl.out])
        have tl := hid (show (bfsShard r X Fr (tour es n s (O.take j))).length = n by rw [bfsShard_length, fl.out])
        by_cases hjl : j < s
        · obtain ⟨sg, fr, m, bo, rfl, hcut, hmn, hsh⟩ := S2.out.shard s1 s2 hjl K.out [ga, gb, gc, gd] (by simp; exact ⟨G.out.1, G.out.2.1, G2.out.1, G2.out.2.1⟩)
          have ju : nat O j < s := lt.out j hjl
          have jO : j < O.length := by rw [ol.out]; exact hjl
          have p0 := owned_at I.out jO
          obtain ⟨u, hu⟩ : ∃ u, nat O j = u := ⟨_, rfl⟩
          have NX2 := hid (show O.take (j + 1) = O.take j ++ [u] by rw [take_nat jO, hu])
          rw [hu] at ju p0
          clear hu
          have NX1 := hid (show (List.range s).take (j + 1) = (List.range s).take j ++ [j] by rw [take_nat (by simpa using hjl), nat_eq (by simpa using hjl)]; simp)
          obtain ⟨sg2, fr2, m2, bo2, e2, hcut2, hmn2, hsh2⟩ := S2.out.shard s1 s2 ju K.out [ga, gb, gc, gd] (by simp; exact ⟨G.out.1, G.out.2.1, G2.out.1, G2.out.2.1⟩)
          simp only [Option.some.injEq, Addr.mk.injEq] at e2
          obtain ⟨rfl, -, -⟩ := e2
          have C1 := hid (show bfsShard r X Fr (tour es n s ((List.range s).take (j + 1))) = bfsShard r X (bfsShard r X Fr (tour es n s ((List.range s).take j))) (edgesOf fr (rowsOf es fr m)) by
            rw [NX1.out, tour_append, tour_one, shardEdges_at hcut, bfsShard_append])
          have C2 := hid (show bfsShard r X Fr (tour es n s (O.take (j + 1))) = bfsShard r X (bfsShard r X Fr (tour es n s (O.take j))) (edgesOf fr2 (rowsOf es fr2 m2)) by
            rw [NX2.out, tour_append, tour_one, shardEdges_at hcut2, bfsShard_append])
          have q0 := hsh.c0
          have q1 := hsh.c1
          have q2 := hsh.c2
          have SH := hid hsh
          have SH2 := hid hsh2
          have SG := hid (show sg ∉ [gb] by have := S2.out.lt s1 s2; have := G.out; simp; omega)
          have rl := hid (rowsOf_length es fr m)
          have rl2 := hid (rowsOf_length es fr2 m2)
          clear hcut hsh hcut2 hsh2
          have hcs := bfsShard_ok [ga, gb, gc, gd] pa pb ga gb _ _ fr ((fr + m : Nat) : Int) (some ⟨bo, 0, none⟩) m (rowsOf es fr m) r wr T.out (by rw [xl.out, yl.out]) (by rw [xl.out]; omega) (by rw [xl.out]; omega) SH.out.out (by simp) (by rw [xl.out]; omega) (by rw [rl.out]; omega) (by rw [rl.out]; omega) (by rw [xl.out]; exact HG.out.within fr m) (fun i hi => Nat.le_trans (HG.out.short fr m i hi) (by omega)) (by omega)
          rw [rl.out] at hcs
          have HC := hid hcs
          clear hcs
          go_wp2_with fail
          refine HC.out.mono ?_
          rintro e w5 ⟨rfl, hk5, ht5⟩
          have K5 := hid ((K.out.of_nil.trans hk5).to_nil (by simp; exact G.out.2.1))
          have T5 := hid ht5
          have U5 := hid (U.out.kept hk5 (by simp; exact G6.out))
          have I5 := hid (ownsRow_kept I.out hk5 (fun i hi => by have := OF.out i hi; simp at this ⊢; omega))
          have SH5 := hid (SH2.out.kept hk5 SG.out (by simp))
          clear hk5 ht5 q0 q1 q2 HC p0
          have q0 := SH5.out.c0
          have q1 := SH5.out.c1
          have q2 := SH5.out.c2
          have p0 : w5.cell? ⟨og, j, none⟩ = some (.int .i64 u) := by
            have := owned_at I5.out jO
            have e9 := NX2.out
            rw [take_nat jO] at e9
            have e8 : nat O j = u := by simpa using e9
            rwa [e8] at this
          have hcs := bfsShard_ok [ga, gb, gc, gd] pc pd gc gd _ _ fr2 ((fr2 + m2 : Nat) : Int) (some ⟨bo2, 0, none⟩) m2 (rowsOf es fr2 m2) r w5 U5.out (by rw [xl.out, tl.out]) (by rw [xl.out]; omega) (by rw [xl.out]; omega) SH5.out.out (by simp) (by rw [xl.out]; omega) (by rw [rl2.out]; omega) (by rw [rl2.out]; omega) (by rw [xl.out]; exact HG.out.within fr2 m2) (fun i hi => Nat.le_trans (HG.out.short fr2 m2 i hi) (by omega)) (by omega)
          rw [rl2.out] at hcs
          have HC := hid hcs
          clear hcs
          go_wp2_with fail
          refine HC.out.mono ?_
          rintro e w6 ⟨rfl, hk6, ht6⟩
          have K6 := hid ((K5.out.of_nil.trans hk6).to_nil (by simp; exact G2.out.2.1))
          have U6 := hid ht6
          have T6 := hid (T5.out.kept hk6 (by simp; exact G8.out))
          have I6 := hid (ownsRow_kept I5.out hk6 (fun i hi => by have := OF.out i hi; simp at this ⊢; omega))
          clear hk6 ht6
          go_wp2
          exact ⟨⟨j + 1, by omega, by go_num, K6.out, by rw [C1.out]; exact T6.out, by rw [C2.out]; exact U6.out, I6.out⟩, by simp [intOf]; omega⟩
        · obtain rfl : s = j := by omega
          have E1 := hid (show tour es n s ((List.range s).take s) = tri es n by rw [List.take_of_length_le (by simp), tour_range s1])
          have E2 := hid (show O.take s = O ++ (ms.map (· % s)).take 0 by rw [List.take_of_length_le (by rw [ol.out]; omega)]; simp)
          rw [E1.out] at T yl
          rw [E2.out] at U tl
          obtain ⟨Y, hY⟩ : ∃ Y, Y = bfsShard r X Fr (tri es n) := ⟨_, rfl⟩
          have HY := hid hY
          rw [← hY] at T yl
          clear hY E1 E2
          obtain ⟨c0, ca, c2, c3⟩ := LC.out _ K.out
          clear c0 ca c2
          go_wp2_with fail
          go_loopw [15] (fun i wq => ∃ j : Nat, j ≤ ms.length ∧ i = .int .i64 j ∧ Kept [] w2 wq ∧ Two wq pa ga pb gb X Y ∧ Two wq pc gc pd gd X (bfsShard r X Fr (tour es n s (O ++ (ms.map (· % s)).take j))) ∧ IsInts wq 0 (.slice (some ⟨og, 0, none⟩) O.length oc) O) (fun i _ => ms.length - (intOf i).toNat)
          case atStart => exact ⟨0, Nat.zero_le _, rfl, K.out, T.out, U.out, I.out⟩
          case round =>
            clear c3
            obtain ⟨j, hj, rfl, hK, hT, hU, hI⟩ := hrel
            have K := hid hK
            have T := hid hT
            have U := hid hU
            have I := hid hI
            clear hK hT hU hI
            have tl := hid (show (bfsShard r X Fr (tour es n s (O ++ (ms.map (· % s)).take j))).length = n by rw [bfsShard_length, fl.out])
            obtain ⟨c0, ca, c2, c3⟩ := LC.out _ K.out
            clear c0 ca c2
            by_cases hjl : j < ms.length
            · have d4 : decide ((j : Int) < ms.length) = true := by simpa using hjl
              obtain ⟨mb, mo, rfl, x0⟩ := hms.cells j hjl
              replace x0 := (K2.out.trans K.out).cell_some x0 (by simp)
              have hx8 := HMM.out j hjl
              have NX := hid (mods_next (s := s) hjl)
              obtain ⟨x, hx⟩ : ∃ x, nat ms j = x := ⟨_, rfl⟩
              rw [hx] at x0 hx8 NX
              clear hx
              obtain ⟨u, hu⟩ : ∃ u, u = x % s := ⟨_, rfl⟩
              have ul : u < s := by rw [hu]; exact Nat.mod_lt _ (by omega)
              have hp2 : (x : Int) % s = (u : Int) := by rw [hu, Int.natCast_emod]
              rw [← hu] at NX
              clear hu
              obtain ⟨sg, fr, m, bo, rfl, hcut, hmn, hsh⟩ := S2.out.shard s1 s2 ul K.out [ga, gb, gc, gd] (by simp; exact ⟨G.out.1, G.out.2.1, G2.out.1, G2.out.2.1⟩)
              have C2 := hid (show bfsShard r X Fr (tour es n s (O ++ (ms.map (· % s)).take (j + 1))) = bfsShard r X (bfsShard r X Fr (tour es n s (O ++ (ms.map (· % s)).take j))) (edgesOf fr (rowsOf es fr m)) by
                rw [NX.out, ← List.append_assoc, tour_append _ _ _ (O ++ _), tour_one, shardEdges_at hcut, bfsShard_append])
              have q0 := hsh.c0
              have q1 := hsh.c1
              have q2 := hsh.c2
              have SH := hid hsh
              have rl := hid (rowsOf_length es fr m)
              clear hcut hsh
              have hcs := bfsShard_ok [ga, gb, gc, gd] pc pd gc gd _ _ fr ((fr + m : Nat) : Int) (some ⟨bo, 0, none⟩) m (rowsOf es fr m) r wr U.out (by rw [xl.out, tl.out]) (by rw [xl.out]; omega) (by rw [xl.out]; omega) SH.out.out (by simp) (by rw [xl.out]; omega) (by rw [rl.out]; omega) (by rw [rl.out]; omega) (by rw [xl.out]; exact HG.out.within fr m) (fun i hi => Nat.le_trans (HG.out.short fr m i hi) (by omega)) (by omega)
              rw [rl.out] at hcs
              have HC := hid hcs
              clear hcs
              go_wp2_with fail
              refine HC.out.mono ?_
              rintro e w6 ⟨rfl, hk6, ht6⟩
              have K6 := hid ((K.out.of_nil.trans hk6).to_nil (by simp; exact G2.out.2.1))
              have U6 := hid ht6
              have T6 := hid (T.out.kept hk6 (by simp; exact G8.out))
              have I6 := hid (ownsRow_kept I.out hk6 (fun i hi => by have := OF.out i hi; simp at this ⊢; omega))
              clear hk6 ht6 hp2
              go_wp2
              exact ⟨⟨j + 1, by omega, by go_num, K6.out, T6.out, by rw [C2.out]; exact U6.out, I6.out⟩, by simp [intOf]; omega⟩
            · have d4 : decide ((j : Int) < ms.length) = false := by simpa using hjl
              have E3 := hid (show bfsShard r X Fr (tour es n s (O ++ (ms.map (· % s)).take j)) = Y by
                rw [List.take_of_length_le (by simp; omega), HY.out]
                exact bfsShard_same (tour_more s1 op.out (mods_lt s1)))
              rw [E3.out] at U
              clear E3 tl
              go_wp2_with fail
              refine (Read_ok pb gb Y _ T.out.acc (by rw [yl.out]; omega)).mono ?_
              rintro e w5 ⟨v5, rfl, hk5, hr5⟩
              have K5 := hid (K.out.trans hk5)
              have T5 := hid (T.out.ext hk5)
              have U5 := hid (U.out.ext hk5)
              have I5 := hid (ownsRow_kept I.out hk5 (by simp))
              have R5 := hid hr5
              clear hk5 hr5
              go_wp2_with fail
              refine (Read_ok pd gd Y _ U5.out.acc (by rw [yl.out]; omega)).mono ?_
              rintro e w6 ⟨v6, rfl, hk6, hr6⟩
              have K6 := hid (K5.out.trans hk6)
              have T6 := hid (T5.out.ext hk6)
              have U6 := hid (U5.out.ext hk6)
              have I6 := hid (ownsRow_kept I5.out hk6 (by simp))
              have R6 := hid (ownsRow_kept R5.out hk6 (by simp))
              have V6 := hid hr6
              clear hk6 hr6
              go_wp2_with fail
              refine (Numbers_true _ _ v5 v6 Y Y _ R6.out V6.out (by rw [yl.out]; omega) rfl).mono ?_
              rintro e w7 ⟨rfl, hk7⟩
              have K7 := hid (K6.out.trans hk7)
              have T7 := hid (T6.out.ext hk7)
              have U7 := hid (U6.out.ext hk7)
              have I7 := hid (ownsRow_kept I6.out hk7 (by simp))
              clear hk7
              go_wp2_with fail
              refine (bfsCommit_ok pa pb ga gb X Y 0 r _ T7.out (by rw [xl.out, yl.out]) (by rw [xl.out]; omega) (by rw [xl.out]; omega)).mono ?_
              rintro e w8 ⟨rfl, hk8, ht8⟩
              rw [xl.out, ← HFr.out] at ht8
              have K8 := hid ((K7.out.of_nil.trans hk8).to_nil (by simp; exact ⟨G.out.1, G.out.2.1⟩))
              have T8 := hid ht8
              have U8 := hid (U7.out.kept hk8 (by simp; exact ⟨⟨G5.out.1, G6.out.1⟩, ⟨G5.out.2.1, G6.out.2.1⟩, ⟨G5.out.2.2.1, G6.out.2.2.1⟩, G5.out.2.2.2, G6.out.2.2.2⟩))
              have I8 := hid (ownsRow_kept I7.out hk8 (fun i hi => by have := OF.out i hi; simp at this ⊢; omega))
              clear hk8 ht8
              go_wp2_with fail
              refine (bfsCommit_ok pc pd gc gd X Y 0 r _ U8.out (by rw [xl.out, yl.out]) (by rw [xl.out]; omega) (by rw [xl.out]; omega)).mono ?_
              rintro e w9 ⟨rfl, hk9, ht9⟩
              rw [xl.out, ← HFr.out] at ht9
              have K9 := hid ((K8.out.of_nil.trans hk9).to_nil (by simp; exact ⟨G2.out.1, G2.out.2.1⟩))
              have U9 := hid ht9
              have T9 := hid (T8.out.kept hk9 (by simp; exact ⟨⟨G7.out.1, G8.out.1⟩, ⟨G7.out.2.1, G8.out.2.1⟩, ⟨G7.out.2.2.1, G8.out.2.2.1⟩, G7.out.2.2.2, G8.out.2.2.2⟩))
              have I9 := hid (ownsRow_kept I8.out hk9 (fun i hi => by have := OF.out i hi; simp at this ⊢; omega))
              clear hk9 ht9
              obtain ⟨b, hb⟩ : ∃ b, bfsDone X Y = b := ⟨_, rfl⟩
              rw [hb]
              clear hb
              have bb : (b != b) = false := by simp
              obtain ⟨Z, hZ⟩ : ∃ Z, Z = tab (bfsCur X Y) n := ⟨_, rfl⟩
              have zl := hid (show Z.length = n by rw [hZ, tab_length])
              rw [← hZ] at T9 U9
              clear hZ
              go_wp2_with fail
              refine (Read_ok pa ga Z _ T9.out.cur (by rw [zl.out]; omega)).mono ?_
              rintro e w10 ⟨v10, rfl, hk10, hr10⟩
              have K10 := hid (K9.out.trans hk10)
              have T10 := hid (T9.out.ext hk10)
              have U10 := hid (U9.out.ext hk10)
              have I10 := hid (ownsRow_kept I9.out hk10 (by simp))
              have R10 := hid hr10
              clear hk10 hr10
              go_wp2_with fail
              refine (Read_ok pc gc Z _ U10.out.cur (by rw [zl.out]; omega)).mono ?_
              rintro e w11 ⟨v11, rfl, hk11, hr11⟩
              have K11 := hid (K10.out.trans hk11)
              have T11 := hid (T10.out.ext hk11)
              have U11 := hid (U10.out.ext hk11)
              have I11 := hid (ownsRow_kept I10.out hk11 (by simp))
              have R11 := hid (ownsRow_kept R10.out hk11 (by simp))
              have V11 := hid hr11
              clear hk11 hr11
              go_wp2_with fail
              refine (Numbers_true _ _ v10 v11 Z Z _ R11.out V11.out (by rw [zl.out]; omega) rfl).mono ?_
              rintro e w12 ⟨rfl, hk12⟩
              have K12 := hid (K11.out.trans hk12)
              have T12 := hid (show Two w12 pa ga pb gb Z (tab (fun _ => far) n) by rw [← HFr.out]; exact T11.out.ext hk12)
              have U12 := hid (show Two w12 pc gc pd gd Z (tab (fun _ => far) n) by rw [← HFr.out]; exact U11.out.ext hk12)
              have I12 := hid (ownsRow_kept I11.out hk12 (by simp))
              clear hk12
              go_wp2
              exact ⟨⟨r + 1, Z, by omega, zl.out, by go_num, K12.out, T12.out, U12.out, I12.out⟩, by simp [intOf]; omega⟩
    · have d3 : decide ((r : Int) < 3) = false := by simp; omega
      go_wp2_with fail
      refine (bfsEnds_ok _).mono ?_
      rintro e w7 ⟨rfl, hk7⟩
      have K7 := hid ((K2.out.trans K.out).trans hk7)
      clear hk7
      go_wp2_with fail
      go_ret
      exact ⟨rfl, K7.out⟩

set_option maxRecDepth 100000 in
set_option maxHeartbeats 2000000 in
theorem BfsOften_ok (N : Nat) (a : Option Addr) (c : Nat) (ps : List (Nat × Nat)) (M A : Nat) (a1 b1 : Option Addr) (c1 d1 : Nat) (bs ms : List Nat) (w : World) (h : IsPairs w a ps) (hbs : IsBytes w a1 bs) (hms : IsBytes w b1 ms) (hN : N < 256)
    (hps : ∀ i, i < ps.length → (edge ps i).1 < 256 ∧ (edge ps i).2 < 256) (hM : M < 256) (hA : A < 256) (hbb : ∀ i, i < bs.length → nat bs i < 256) (hmm : ∀ i, i < ms.length → nat ms i < 256) (hbl : bs.length ≤ maxLen) (hml : ms.length ≤ maxLen) :
    Calls Try.prog 7 #[.agg #[.int .u8 N, .slice a ps.length c], .agg #[.int .u8 M, .int .u8 A, .slice a1 bs.length c1, .slice b1 ms.length d1]] w fun e w' => e = .returned (.bool true) ∧ Kept [] w w' := by
  by_cases h1 : ps.length ≤ 300
  · by_cases h2 : bs.length ≤ 50 ∧ ms.length ≤ 20
    · exact BfsOften_main N a c ps M A a1 b1 c1 d1 bs ms w h hbs hms hN hps hM hA hbb hmm hbl hml h1 h2.1 h2.2
    · have g1 : decide ((300 : Int) < ps.length) = false := by simp; omega
      have D0 := hid (show (decide (50 < bs.length) || decide (20 < ms.length)) = true by simp; omega)
      clear h2
      go_enter Try.func7, Try.ntmps7
      go_wp2_with fail
      refine (Great_ok M A a1 b1 bs ms c1 d1 _ hbl hml).mono ?_
      rintro e wg ⟨rfl, hkg⟩
      rw [D0.out]
      have kb : Kept [] w wg := ((Kept.refl _ _).alloc _).alloc _ |>.trans hkg
      clear hkg
      go_wp2_with fail
      refine (bfsEnds_ok _).mono ?_
      rintro e w7 ⟨rfl, hk7⟩
      have K7 := hid (kb.trans hk7)
      clear hk7 kb
      go_wp2_with fail
      go_ret
      exact ⟨rfl, K7.out⟩
  · have g1 : decide ((300 : Int) < ps.length) = true := by simp; omega
    go_enter Try.func7, Try.ntmps7
    go_wp2_with fail
    have kb : Kept [] w ((w.alloc (.cells #[.int .u8 N, .slice a ps.length c] 24)).alloc (.cells #[.int .u8 M, .int .u8 A, .slice a1 bs.length c1, .slice b1 ms.length d1] 62)) := ((Kept.refl _ _).alloc _).alloc _
    refine (bfsEnds_ok _).mono ?_
    rintro e w7 ⟨rfl, hk7⟩
    have K7 := hid (kb.trans hk7)
    clear hk7 kb
    go_wp2_with fail
    go_ret
    exact ⟨rfl, K7.out⟩
end Go.Proofs.Ytedljgohmlilgaa
