/-
  The walk of carousellaw19.LabelsWhole.
-/
import Derived.Test.YtedljgohmlilgaaOrdW
import Derived.Test.YtedljgohmlilgaaEndL
import Derived.Test.YtedljgohmlilgaaGLab
import Derived.Test.YtedljgohmlilgaaTRun
import Derived.Test.YtedljgohmlilgaaGOrd
namespace Go.Proofs.Ytedljgohmlilgaa
open Go.RowKit
set_option linter.unusedVariables false

set_option linter.unusedSimpArgs false
/-- The block of a slice is none of these. -/
def OffW (v : Value) (L : List Nat) : Prop := ∀ j, v.ownBlock = some j → j ∉ L
theorem U64s.row {w : World} {B g n : Nat} {xs : List Int} (h : U64s w g xs) (hn : xs.length = n) (hm : n ≤ maxLen) (hB : B ≤ g) : IsRow w B (.slice (some ⟨g, 0, none⟩) n n) xs := by
  subst hn
  exact ⟨by simp, .inr ⟨g, xs.length, _, rfl, hB, h, Nat.le_refl _, hm, by simp, by simp [List.take_of_length_le]⟩⟩
theorem full_tour {k g n r : Nat} {es : List (Nat × Nat)} {s : Nat} {O : List Nat} (h : 1 ≤ s) (ho : O.Perm (List.range s)) : kEdges k r (kCurAt k g n (tri es n) r) (kAccAt k g n (tri es n) r) (tour es n s O) = kFull k g n (tri es n) r := by
  have hp := tour_perm (es := es) (n := n) h ho
  have hw := kState_words k g n (tri es n) r
  unfold kFull kEdges
  split
  · exact bfsShard_same fun e => hp.mem_iff
  · exact rankShard_perm (hw rfl).2 hp
  · exact labelsShard_same fun e => hp.mem_iff
  · rename_i h1 h2 h3
    refine coresShard_perm ?_ hp
    have : kAccAt k g n (tri es n) r = tab (fun _ => 0) n := by
      cases r with
      | zero =>
        show kAcc0 k n = _
        unfold kAcc0
        split
        · exact absurd rfl h1
        · exact absurd rfl h2
        · exact absurd rfl h3
        · rfl
      | succ r =>
        show kAcc k n _ = _
        unfold kAcc
        split
        · exact absurd rfl h1
        · exact absurd rfl h2
        · exact absurd rfl h3
        · rfl
    rw [this]
    exact Words.tab n (fun _ => by omega)

set_option maxRecDepth 100000 in
set_option maxHeartbeats 16000000 in
theorem LabelsWhole_main (N : Nat) (a : Option Addr) (c : Nat) (ps : List (Nat × Nat)) (M A : Nat) (a1 b1 : Option Addr) (c1 d1 : Nat) (bs ms : List Nat) (w : World) (h : IsPairs w a ps) (hbs : IsBytes w a1 bs) (hms : IsBytes w b1 ms) (hN : N < 256)
    (hps : ∀ i, i < ps.length → (edge ps i).1 < 256 ∧ (edge ps i).2 < 256) (hM : M < 256) (hA : A < 256) (hbb : ∀ i, i < bs.length → nat bs i < 256) (hmm : ∀ i, i < ms.length → nat ms i < 256) (hbl : bs.length ≤ maxLen) (hml : ms.length ≤ maxLen) (h1 : ps.length ≤ 300) (h2 : bs.length ≤ 50) (h3 : ms.length ≤ 20) :
    Calls Try.prog 13 #[.agg #[.int .u8 N, .slice a ps.length c], .agg #[.int .u8 M, .int .u8 A, .slice a1 bs.length c1, .slice b1 ms.length d1]] w fun e w' => e = .returned (.bool true) ∧ Kept [] w w' := by
  have d1' : decide ((300 : Int) < ps.length) = false := by simp; omega
  have HG := hid (graphy N ps h1)
  have HPS := hid hps; clear hps
  have HBB := hid hbb; clear hbb
  have HMM := hid hmm; clear hmm
  have D0 := hid (show (decide (50 < bs.length) || decide (20 < ms.length)) = false by simp; omega)
  have lc := hid (fun (w' : World) (k : Kept [] ((w.alloc (.cells #[.int .u8 N, .slice a ps.length c] 24)).alloc (.cells #[.int .u8 M, .int .u8 A, .slice a1 bs.length c1, .slice b1 ms.length d1] 62)) w') => (show w'.cell? ⟨w.heap.size + 1, 0, none⟩ = some (.int .u8 M) ∧ w'.cell? ⟨w.heap.size + 1, 1, none⟩ = some (.int .u8 A) ∧ w'.cell? ⟨w.heap.size + 1, 2, none⟩ = some (.slice a1 bs.length c1) ∧ w'.cell? ⟨w.heap.size + 1, 3, none⟩ = some (.slice b1 ms.length d1) from by
    have ho : ((w.alloc (.cells #[.int .u8 N, .slice a ps.length c] 24)).alloc (.cells #[.int .u8 M, .int .u8 A, .slice a1 bs.length c1, .slice b1 ms.length d1] 62)).heap[w.heap.size + 1]? = some (.cells #[.int .u8 M, .int .u8 A, .slice a1 bs.length c1, .slice b1 ms.length d1] 62 (0, 0)) := new_obj (by simp)
    have ho2 := k.obj ho (by simp)
    exact ⟨by rw [cell_of_obj ho2]; rfl, by rw [cell_of_obj ho2]; rfl, by rw [cell_of_obj ho2]; rfl, by rw [cell_of_obj ho2]; rfl⟩))
  go_enter Try.func13, Try.ntmps13
  go_wp2_with fail
  refine (Great_ok M A a1 b1 bs ms c1 d1 _ hbl hml).mono ?_
  rintro e wg ⟨rfl, hkg⟩
  rw [D0.out]
  have KG := hid hkg
  have ob := hkg.obj (obj_alloc_old (new_obj rfl) _ : ((w.alloc (.cells #[.int .u8 N, .slice a ps.length c] 24)).alloc (.cells #[.int .u8 M, .int .u8 A, .slice a1 bs.length c1, .slice b1 ms.length d1] 62)).heap[w.heap.size]? = some (.cells #[.int .u8 N, .slice a ps.length c] 24 (0, 0))) (by simp)
  have b0 : wg.cell? ⟨w.heap.size, 0, none⟩ = some (.int .u8 N) := cell_of_obj ob 0
  have b1 : wg.cell? ⟨w.heap.size, 1, none⟩ = some (.slice a ps.length c) := cell_of_obj ob 1
  clear ob
  go_wp2_with fail
  clear b0 b1
  have kb : Kept [] w wg := ((Kept.refl _ _).alloc _).alloc _ |>.trans hkg
  refine (Made_ok N a c ps _ (h.ext kb) hN HPS.out h1).mono ?_
  obtain ⟨n, hn⟩ : ∃ n, n = 1 + N % 60 := ⟨_, rfl⟩
  obtain ⟨es, hes⟩ : ∃ es, es = normE (told n ps) := ⟨_, rfl⟩
  rw [← hn] at HG ⊢
  rw [← hes] at HG ⊢
  rintro e w1 ⟨v1, rfl, hk1, he1⟩
  have K1 := hid (kb.trans hk1)
  obtain ⟨ea, ec, rfl, hec, hen, hesm⟩ := he1.slice
  have E1 := hid he1
  have ES := hid hesm
  have KB := hid hk1
  have EN := hid hen
  clear hesm hen
  clear hk1 he1 hn hes kb hkg
  have n1 := HG.out.n1
  have n60 := HG.out.n60
  have el := HG.out.len
  have LC1 := hid (show Kept [] ((w.alloc (.cells #[.int .u8 N, .slice a ps.length c] 24)).alloc (.cells #[.int .u8 M, .int .u8 A, .slice a1 bs.length c1, .slice b1 ms.length d1] 62)) w1 from KG.out.trans KB.out)
  obtain ⟨c0, ca, c2, c3⟩ := lc.out _ LC1.out
  go_wp2_with fail
  refine (Shards_ok _ (.slice ea es.length ec) es n M _ E1.out n1 (by omega) hM (lead_rising HG.out.rise) (by have := HG.out.len; omega)).mono ?_
  rintro e w2 ⟨v2, rfl, hk2, hs2⟩
  have K2 := hid (K1.out.trans hk2)
  have E1K := hid hk2
  have E2 := hid (E1.out.ext hk2)
  obtain ⟨s, hs⟩ : ∃ s, s = parts n M := ⟨_, rfl⟩
  have s1 := parts_pos n M
  have s2 := parts_le M n1
  have s3 := parts_16 M n1
  rw [← hs] at hs2 s1 s2 s3
  obtain ⟨sa, sc, rfl, hsc⟩ := hs2.slice
  rw [cuts_length] at hsc hs2 ⊢
  have S2 := hid hs2
  clear hk2 hs2 hs
  have LC := hid (fun (w' : World) (k : Kept [] w2 w') => lc.out w' ((LC1.out.trans E1K.out).trans k))
  clear c0 ca c2 c3
  have HRQ := hid (show okReq 3 0 n from .inr (.inr (.inl ⟨rfl, rfl⟩)))
  obtain ⟨rb, hrb⟩ : ∃ rb, rb = w2.heap.size := ⟨_, rfl⟩
  obtain ⟨w3, hw3⟩ : ∃ w3, w3 = w2.alloc (.cells #[.int .i64 3, .int .i64 0, .int .i64 0, .int .i64 0] 76) := ⟨_, rfl⟩
  have k23 := hid (show Kept [] w2 w3 by rw [hw3]; exact (Kept.refl _ _).alloc _)
  have R3 := hid (show w3.heap[rb]? = some (.cells #[.int .i64 3, .int .i64 0, .int .i64 0, .int .i64 0] 76 (0, 0)) by rw [hw3]; exact new_obj hrb)
  have HW3 := hid hw3
  have HRB := hid hrb
  clear hw3 hrb
  obtain ⟨c0, ca, c2, c3⟩ := LC.out _ (Kept.refl [] w2)
  clear c0 c2 c3
  go_wp2_with fail
  rw [← HW3.out, ← HRB.out]
  clear HW3 ca
  have r0 : w3.cell? ⟨rb, 0, none⟩ = some (.int .i64 3) := cell_of_obj R3.out 0
  have r1 : w3.cell? ⟨rb, 1, none⟩ = some (.int .i64 0) := cell_of_obj R3.out 1
  have r2 : w3.cell? ⟨rb, 2, none⟩ = some (.int .i64 0) := cell_of_obj R3.out 2
  have r3 : w3.cell? ⟨rb, 3, none⟩ = some (.int .i64 0) := cell_of_obj R3.out 3
  go_wp2_with fail
  refine (tOf_ok 3 0 0 0 n ea ec _ es w3 (E2.out.ext k23.out) HG.out HRQ.out (by omega)).mono ?_
  rintro e w4 ⟨gg, m, want, rfl, hgg, hk4, hu4, hrun⟩
  have k24 := hid (k23.out.trans hk4)
  have R4 := hid (hk4.obj R3.out (by simp))
  have U4 := hid hu4
  have RUN := hid hrun
  clear hk4 hu4 hrun r0 r1 r2 r3
  have r0 : w4.cell? ⟨rb, 0, none⟩ = some (.int .i64 3) := cell_of_obj R4.out 0
  have r1 : w4.cell? ⟨rb, 1, none⟩ = some (.int .i64 0) := cell_of_obj R4.out 1
  have r2 : w4.cell? ⟨rb, 2, none⟩ = some (.int .i64 0) := cell_of_obj R4.out 2
  have r3 : w4.cell? ⟨rb, 3, none⟩ = some (.int .i64 0) := cell_of_obj R4.out 3
  go_wp2_with fail
  refine (tRounds_ok 3 0 0 0 n ea ec _ es w4 (E2.out.ext k24.out) HG.out HRQ.out (by omega)).mono ?_
  rintro e w5 ⟨m2, want2, rfl, hk5, hrun2⟩
  obtain rfl : m = m2 := (RUN.out.same hrun2).1
  have k25 := hid (k24.out.trans hk5)
  have R5 := hid (hk5.obj R4.out (by simp))
  have U5 := hid (U4.out.kept hk5 (by simp))
  have ggl := hid (show gg < w5.heap.size from U5.out.lt)
  clear hk5 hrun2 r0 r1 r2 r3
  have mb : 1 ≤ m ∧ m ≤ 100 := by have a := RUN.out.le; have b := RUN.out.pos; simp at a; omega
  go_wp2_with fail
  refine (Fresh_ok n w5 (by omega)).mono ?_
  rintro e w6 ⟨rfl, hk3, ht3, hz3⟩
  obtain ⟨ga, hga⟩ : ∃ ga, ga = w5.heap.size := ⟨_, rfl⟩
  obtain ⟨pa, hpa⟩ : ∃ pa, pa = w5.heap.size + 1 := ⟨_, rfl⟩
  obtain ⟨pb, hpb⟩ : ∃ pb, pb = w5.heap.size + 3 := ⟨_, rfl⟩
  obtain ⟨gb, hgb⟩ : ∃ gb, gb = w5.heap.size + 2 := ⟨_, rfl⟩
  rw [← hpa, ← hpb, ← hgb, ← hga] at ht3
  rw [← hpa, ← hpb]
  have G := hid (show w5.heap.size ≤ ga ∧ w5.heap.size ≤ gb ∧ w5.heap.size ≤ pa ∧ w5.heap.size ≤ pb ∧ ga < w6.heap.size ∧ gb < w6.heap.size ∧ pa < w6.heap.size ∧ pb < w6.heap.size by omega)
  have K3 := hid hk3
  have T3 := hid ht3
  clear hk3 ht3 hz3 hga hpa hpb hgb
  have k26 := hid (k25.out.trans K3.out)
  have GW := hid (show w2.heap.size ≤ ga ∧ w2.heap.size ≤ gb by have := G.out; have := k25.out.size; omega)
  have R6 := hid (K3.out.obj R5.out (by simp))
  have GG := hid (show gg ∉ [ga, gb] by have := G.out; have := ggl.out; simp; omega)
  have RBG := hid (show rb ∉ [ga, gb] by have := G.out; have := obj_lt R5.out; simp; omega)
  have U6 := hid (U5.out.kept K3.out (by simp))
  have z1 : (zeros n).length = n := by simp [zeros]
  have nzs : ¬ s = 0 := by omega
  have nzs2 : ((s : Int) == 0) = false := by simp; omega
  go_wp2_with fail
  refine (labelsBegin_ok pa pb ga gb (zeros n) (zeros n)  w6 T3.out rfl (by omega) (by omega)).mono ?_
  rintro e w7 ⟨rfl, hk7, ht7⟩
  rw [z1] at ht7
  have KA7 := hid ((k26.out.of_nil.trans hk7).to_nil (by simp; exact GW.out) : Kept [] w2 w7)
  have KB7 := hid hk7
  have T7 := hid (show Two w7 pa ga pb gb (kCurAt 3 0 n (tri es n) 0) (kAccAt 3 0 n (tri es n) 0) from ht7)
  clear hk7 ht7
  obtain ⟨c0, ca, c2, c3⟩ := LC.out _ KA7.out
  clear c0 ca c3
  go_wp2_with fail
  refine (Order_ok s a1 c1 bs _ ((hbs.ext K2.out).ext KA7.out) s1 (by omega) HBB.out (by omega)).mono ?_
  rintro e w8 ⟨v8, rfl, hk8, ho8⟩
  have KA8 := hid (KA7.out.trans hk8)
  have KB8 := hid (KB7.out.trans hk8.of_nil)
  have T8 := hid (T7.out.ext hk8)
  have OF := hid (show OffW v8 [ga, gb] by
    intro j hj
    have := (World.ownsRow.lt ho8 j hj).1
    have := T7.out.lt
    simp; omega)
  have ol := hid (order_length bs s)
  have op := hid (order_perm bs s)
  have lt := hid (fun (i : Nat) (hi : i < s) => order_lt (bs := bs) hi)
  obtain ⟨O, hO⟩ : ∃ O, O = order bs s := ⟨_, rfl⟩
  rw [← hO] at ho8 ol op lt
  have I8 := hid (ownsRow_base ho8 (Nat.zero_le _))
  obtain ⟨og, oc, rfl, _, _⟩ := World.ownsRow.form ho8 (by rw [ol.out]; omega)
  clear hk8 ho8 hO c2
  go_wp2_with fail
  go_loopw [16] (fun i wr => ∃ r : Nat, r ≤ m ∧ i = .int .i64 r ∧ Kept [] w2 wr ∧ Kept [ga, gb] w6 wr ∧ Two wr pa ga pb gb (kCurAt 3 0 n (tri es n) r) (kAccAt 3 0 n (tri es n) r) ∧ IsInts wr 0 (.slice (some ⟨og, 0, none⟩) O.length oc) O) (fun i _ => m - (intOf i).toNat)
  case atStart => exact ⟨0, Nat.zero_le _, rfl, KA8.out, KB8.out, T8.out, I8.out⟩
  case round =>
    clear T8 I8 KA8 KB8 T7 KA7 KB7
    obtain ⟨r, hr, rfl, hKA, hKB, hT, hI⟩ := hrel
    have KA := hid hKA
    have KB := hid hKB
    have I := hid hI
    obtain ⟨X, hX⟩ : ∃ X, X = kCurAt 3 0 n (tri es n) r := ⟨_, rfl⟩
    obtain ⟨Y, hY⟩ : ∃ Y, Y = kAccAt 3 0 n (tri es n) r := ⟨_, rfl⟩
    have xl := hid (show X.length = n by rw [hX]; exact (kState_length 3 0 n (tri es n) r).1)
    have yl := hid (show Y.length = n by rw [hY]; exact (kState_length 3 0 n (tri es n) r).2)
    rw [← hX, ← hY] at hT
    have T := hid hT
    have HX := hid hX
    have HY := hid hY
    clear hKA hKB hT hI hX hY
    by_cases hrl : r < m
    · have d3 : decide ((r : Int) < m) = true := by simp; omega
      go_wp2_with fail
      go_loopw [17] (fun i wq => ∃ j : Nat, j ≤ 2 * s ∧ i = .int .i64 j ∧ Kept [] w2 wq ∧ Kept [ga, gb] w6 wq ∧ Two wq pa ga pb gb X (kEdges 3 r X Y (tour es n s ((O ++ O).take j))) ∧ IsInts wq 0 (.slice (some ⟨og, 0, none⟩) O.length oc) O) (fun i _ => 2 * s - (intOf i).toNat)
      case atStart => exact ⟨0, Nat.zero_le _, rfl, KA.out, KB.out, by rw [List.take_zero, tour_nil, kEdges_nil]; exact T.out, I.out⟩
      case round =>
        skip
        obtain ⟨j, hj, rfl, hKA, hKB, hT, hI⟩ := hrel
        have KA := hid hKA
        have KB := hid hKB
        have T := hid hT
        have I := hid hI
        clear hKA hKB hT hI
        have tl := hid (show (kEdges 3 r X Y (tour es n s ((O ++ O).take j))).length = n by rw [kEdges_length, yl.out])
        by_cases hjl : j < 2 * s
        · obtain ⟨jm, hjm⟩ : ∃ jm, jm = j % s := ⟨_, rfl⟩
          have jl : jm < s := by rw [hjm]; exact Nat.mod_lt _ (by omega)
          have hp3 : (j : Int) % s = (jm : Int) := by rw [hjm, Int.natCast_emod]
          have d4 : decide ((j : Int) < 2 * (s : Int)) = true := by simp; omega
          have jO : jm < O.length := by rw [ol.out]; exact jl
          have jOO : j < (O ++ O).length := by rw [List.length_append, ol.out]; omega
          have hsame : nat (O ++ O) j = nat O jm := by
            unfold nat
            rw [List.getD_eq_getElem?_getD, List.getD_eq_getElem?_getD]
            rcases Nat.lt_or_ge j s with hlt | hge
            · rw [List.getElem?_append_left (by rw [ol.out]; exact hlt), hjm, Nat.mod_eq_of_lt hlt]
            · rw [List.getElem?_append_right (by rw [ol.out]; exact hge), ol.out, hjm]
              congr 2
              rw [Nat.mod_eq_sub_mod hge, Nat.mod_eq_of_lt (by omega)]
          have ju : nat O jm < s := lt.out jm jl
          have p0 := owned_at I.out jO
          obtain ⟨q, hq⟩ : ∃ q, nat O jm = q := ⟨_, rfl⟩
          have NX := hid (show (O ++ O).take (j + 1) = (O ++ O).take j ++ [q] by rw [take_nat jOO, hsame, hq])
          rw [hq] at ju p0
          clear hq hsame hjm
          obtain ⟨sg, fr, mm, bo, rfl, hcut, hmn, hsh⟩ := S2.out.shard s1 s2 ju KA.out [ga, gb] (by simp; exact GW.out)
          have C1 := hid (show kEdges 3 r X Y (tour es n s ((O ++ O).take (j + 1))) = labelsShard X (kEdges 3 r X Y (tour es n s ((O ++ O).take j))) (edgesOf fr (rowsOf es fr mm)) by
            rw [NX.out, tour_append, tour_one, shardEdges_at hcut, kEdges_append]; rfl)
          have q0 := hsh.c0
          have q1 := hsh.c1
          have q2 := hsh.c2
          have SH := hid hsh
          have rl := hid (rowsOf_length es fr mm)
          clear hcut hsh
          have hcs := labelsShard_ok [ga, gb] pa pb ga gb _ _ fr ((fr + mm : Nat) : Int) (some ⟨bo, 0, none⟩) mm (rowsOf es fr mm) r wr T.out (by rw [xl.out, tl.out]) (by rw [xl.out]; omega) (by rw [xl.out]; omega) SH.out.out (by simp) (by rw [xl.out]; omega) (by rw [rl.out]; omega) (by rw [rl.out]; omega) (by rw [xl.out]; exact HG.out.within fr mm) (HG.out.short fr mm)
          rw [rl.out] at hcs
          have HC := hid hcs
          clear hcs
          go_wp2_with fail
          refine HC.out.mono ?_
          rintro e w10 ⟨rfl, hk10, ht10⟩
          have KA10 := hid ((KA.out.of_nil.trans hk10).to_nil (by simp; exact GW.out.2))
          have KB10 := hid (KB.out.trans (hk10.to (by simp)))
          have T10 := hid ht10
          have I10 := hid (ownsRow_kept I.out hk10 (fun i hi => by have := OF.out i hi; simp at this ⊢; omega))
          clear hk10 ht10 hp3 d4
          go_wp2
          exact ⟨⟨j + 1, by omega, by go_num, KA10.out, KB10.out, by rw [C1.out]; exact T10.out, I10.out⟩, by simp [intOf]; omega⟩
        · have hjs : j = 2 * s := by omega
          have EF := hid (show kEdges 3 r X Y (tour es n s ((O ++ O).take j)) = kFull 3 0 n (tri es n) r by
            rw [List.take_of_length_le (by rw [List.length_append, ol.out]; omega), HX.out, HY.out]
            exact labelsShard_same (tour_more s1 op.out (fun i hi => by have := op.out.mem_iff.1 hi; simpa using this)))
          have d4 : decide ((j : Int) < 2 * (s : Int)) = false := by simp; omega
          rw [EF.out] at T tl
          obtain ⟨F, hF⟩ : ∃ F, F = kFull 3 0 n (tri es n) r := ⟨_, rfl⟩
          rw [← hF] at T tl
          have DN := hid (show kDone 3 0 r X F = decide (r + 1 = m) by rw [HX.out, hF]; exact RUN.out.done r hrl)
          have NC := hid (show kCurAt 3 0 n (tri es n) (r + 1) = kCur 3 0 n X F by rw [kCurAt_succ, ← HX.out, ← hF])
          have NA := hid (show kAccAt 3 0 n (tri es n) (r + 1) = kAcc 3 n F by rw [kAccAt_succ, ← hF])
          clear EF hF
          go_wp2_with fail
          refine (labelsCommit_ok pa pb ga gb X F 0 (r : Int) _ T.out (by rw [xl.out, tl.out]) (by rw [xl.out]; omega) (by rw [xl.out]; omega)).mono ?_
          rintro e w11 ⟨rfl, hk11, ht11⟩
          rw [xl.out] at ht11
          have KA11 := hid ((KA.out.of_nil.trans hk11).to_nil (by simp; exact GW.out.1))
          have KB11 := hid (KB.out.trans (hk11.to (by simp)))
          have T11 := hid (show Two w11 pa ga pb gb (kCurAt 3 0 n (tri es n) (r + 1)) (kAccAt 3 0 n (tri es n) (r + 1)) by rw [NC.out, NA.out]; exact ht11)
          have I11 := hid (ownsRow_kept I.out hk11 (fun i hi => by have := OF.out i hi; simp at this ⊢; omega))
          clear hk11 ht11
          obtain ⟨b, hb⟩ : ∃ b, b = decide (r + 1 = m) := ⟨_, rfl⟩
          have eb : ((r : Int) == (m : Int) - 1) = b := by rw [hb, Bool.eq_iff_iff]; simp; omega
          have hD : labelsDone X F = b := by rw [hb]; exact DN.out
          rw [hD]
          have bb : (b != b) = false := by simp
          clear hb hD
          go_wp2
          exact ⟨⟨r + 1, by omega, by go_num, KA11.out, KB11.out, T11.out, I11.out⟩, by simp [intOf]; omega⟩
    · have hrm : r = m := by omega
      have d3 : decide ((r : Int) < m) = false := by simp; omega
      go_wp2_with fail
      refine (Read_ok pa ga X _ T.out.cur (by rw [xl.out]; omega)).mono ?_
      rintro e w12 ⟨v12, rfl, hk12, hr12⟩
      have K12 := hid (KA.out.trans hk12)
      have R12 := hid hr12
      have W12 := hid ((U6.out.kept KB.out GG.out).kept hk12 (by simp))
      have WX := hid (show X = want by rw [RUN.out.out, HX.out, hrm])
      clear hk12 hr12
      go_wp2_with fail
      refine (Numbers_true _ 0 v12 _ X want w12 R12.out (W12.out.row (by rw [← WX.out]; exact xl.out) (by unfold maxLen; omega) (Nat.zero_le _)) (by rw [xl.out]; omega) WX.out).mono ?_
      rintro e w13 ⟨rfl, hk13⟩
      have K13 := hid (K12.out.trans hk13)
      clear hk13
      go_wp2_with fail
      refine (labelsEnds_ok _).mono ?_
      rintro e w14 ⟨rfl, hk14⟩
      have K14 := hid ((K2.out.trans K13.out).trans hk14)
      clear hk14
      go_wp2_with fail
      go_ret
      exact ⟨rfl, K14.out⟩

set_option maxRecDepth 100000 in
set_option maxHeartbeats 2000000 in
theorem LabelsWhole_ok (N : Nat) (a : Option Addr) (c : Nat) (ps : List (Nat × Nat)) (M A : Nat) (a1 b1 : Option Addr) (c1 d1 : Nat) (bs ms : List Nat) (w : World) (h : IsPairs w a ps) (hbs : IsBytes w a1 bs) (hms : IsBytes w b1 ms) (hN : N < 256)
    (hps : ∀ i, i < ps.length → (edge ps i).1 < 256 ∧ (edge ps i).2 < 256) (hM : M < 256) (hA : A < 256) (hbb : ∀ i, i < bs.length → nat bs i < 256) (hmm : ∀ i, i < ms.length → nat ms i < 256) (hbl : bs.length ≤ maxLen) (hml : ms.length ≤ maxLen) :
    Calls Try.prog 13 #[.agg #[.int .u8 N, .slice a ps.length c], .agg #[.int .u8 M, .int .u8 A, .slice a1 bs.length c1, .slice b1 ms.length d1]] w fun e w' => e = .returned (.bool true) ∧ Kept [] w w' := by
  by_cases h1 : ps.length ≤ 300
  · by_cases h2 : bs.length ≤ 50 ∧ ms.length ≤ 20
    · exact LabelsWhole_main N a c ps M A a1 b1 c1 d1 bs ms w h hbs hms hN hps hM hA hbb hmm hbl hml h1 h2.1 h2.2
    · have g1 : decide ((300 : Int) < ps.length) = false := by simp; omega
      have D0 := hid (show (decide (50 < bs.length) || decide (20 < ms.length)) = true by simp; omega)
      clear h2
      go_enter Try.func13, Try.ntmps13
      go_wp2_with fail
      refine (Great_ok M A a1 b1 bs ms c1 d1 _ hbl hml).mono ?_
      rintro e wg ⟨rfl, hkg⟩
      rw [D0.out]
      have kb : Kept [] w wg := ((Kept.refl _ _).alloc _).alloc _ |>.trans hkg
      clear hkg
      go_wp2_with fail
      refine (labelsEnds_ok _).mono ?_
      rintro e w7 ⟨rfl, hk7⟩
      have K7 := hid (kb.trans hk7)
      clear hk7 kb
      go_wp2_with fail
      go_ret
      exact ⟨rfl, K7.out⟩
  · have g1 : decide ((300 : Int) < ps.length) = true := by simp; omega
    go_enter Try.func13, Try.ntmps13
    go_wp2_with fail
    have kb : Kept [] w ((w.alloc (.cells #[.int .u8 N, .slice a ps.length c] 24)).alloc (.cells #[.int .u8 M, .int .u8 A, .slice a1 bs.length c1, .slice b1 ms.length d1] 62)) := ((Kept.refl _ _).alloc _).alloc _
    refine (labelsEnds_ok _).mono ?_
    rintro e w7 ⟨rfl, hk7⟩
    have K7 := hid (kb.trans hk7)
    clear hk7 kb
    go_wp2_with fail
    go_ret
    exact ⟨rfl, K7.out⟩
end Go.Proofs.Ytedljgohmlilgaa
