/-
  kernels.Begin, Shard, Commit, numbers, Run: whatever the kind.
-/
import Derived.Test.YtedljgohmlilgaaGreatGKerW
import Derived.Test.YtedljgohmlilgaaGreatGNorm
import Derived.Deep.RegionHeld3
namespace Go.Proofs.YtedljgohmlilgaaGreat
open Go.RowKit
set_option linter.unusedVariables false
set_option linter.unusedSimpArgs false

theorem kBegin_ok (k g p d a b ga gb : Nat) (xs ys : List Int) (w : World) (h : Two w a ga b gb xs ys) (hl : ys.length = xs.length) (hn : xs.length ≤ 256) (h1 : 1 ≤ xs.length) (hq : okReq k g xs.length) (hp : p ≤ 7) :
    Calls Tryz.prog 19 #[rq k g p d, vec a, vec b] w fun e w' => e = .returned (.int .i64 0) ∧ Kept [ga, gb] w w' ∧ Two w' a ga b gb (kCur0 k g xs.length) (kAcc0 k xs.length) := by
  rcases hq with ⟨rfl, hg⟩ | ⟨rfl, hg, hg2⟩ | ⟨rfl, rfl⟩ | ⟨rfl, hg⟩
  · exact kBegin_1 a b ga gb xs ys g p d w h hl hn h1 hg hp
  · exact kBegin_2 a b ga gb xs ys g p d w h hl hn h1 hg hg2 hp
  · exact kBegin_3 a b ga gb xs ys p d w h hl hn h1 hp
  · exact kBegin_4 a b ga gb xs ys g p d w h hl hn h1 hg hp
theorem kShard_ok (k g p d : Nat) (L : List Nat) (a b ga gb : Nat) (xs ys : List Int) (fr : Nat) (t : Int) (o : Option Addr) (c : Nat) (rows : List (List Nat)) (round : Nat) (w : World) (h : Two w a ga b gb xs ys) (hl : ys.length = xs.length) (hn : xs.length ≤ 256) (h1 : 1 ≤ xs.length)
    (ho : IsOut w L o rows) (hgb : gb ∈ L) (t1 : t ≤ xs.length) (t2 : (fr : Int) + rows.length ≤ t) (t3 : t ≤ fr + rows.length) (hw : Within rows xs.length) (hsz : ∀ i, i < rows.length → (row rows i).length ≤ 1000000) (hr : round ≤ 1000000) (hwd : kWords k xs ys) (hq : okReq k g xs.length) (hp : p ≤ 7) :
    Calls Tryz.prog 21 #[rq k g p d, vec a, vec b, .agg #[.int .i64 fr, .int .i64 t, .slice o rows.length c], .int .i64 round] w fun e w' => e = .returned (.int .i64 0) ∧ Kept [gb] w w' ∧ Two w' a ga b gb xs (kEdges k round xs ys (edgesOf fr rows)) := by
  rcases hq with ⟨rfl, hg⟩ | ⟨rfl, hg, hg2⟩ | ⟨rfl, rfl⟩ | ⟨rfl, hg⟩
  · exact kShard_1 g p d L a b ga gb xs ys fr t o c rows round w h hl hn h1 ho hgb t1 t2 t3 hw (fun i hi => Nat.le_trans (hsz i hi) (by omega)) hr hg hp
  · exact kShard_2 g p d L a b ga gb xs ys fr t o c rows round w h hl hn h1 ho hgb t1 t2 t3 hw hsz (hwd rfl).1 (hwd rfl).2 hg hg2 hp
  · exact kShard_3 p d L a b ga gb xs ys fr t o c rows round w h hl hn h1 ho hgb t1 t2 t3 hw hsz hp
  · exact kShard_4 g p d L a b ga gb xs ys fr t o c rows round w h hl hn h1 ho hgb t1 t2 t3 hw hsz hg hp
theorem kCommit_ok (k g p d a b ga gb : Nat) (xs ys : List Int) (round : Nat) (w : World) (h : Two w a ga b gb xs ys) (hl : ys.length = xs.length) (hn : xs.length ≤ 256) (h1 : 1 ≤ xs.length) (hr : round ≤ 1000000) (hwd : kWords k xs ys) (hq : okReq k g xs.length) (hp : p ≤ 7) :
    Calls Tryz.prog 22 #[rq k g p d, vec a, vec b, .int .i64 round] w fun e w' => e = .returned (.tuple #[.bool (kDone k g round xs ys), .int .i64 0]) ∧ Kept [ga, gb] w w' ∧ Two w' a ga b gb (kCur k g xs.length xs ys) (kAcc k xs.length ys) := by
  rcases hq with ⟨rfl, hg⟩ | ⟨rfl, hg, hg2⟩ | ⟨rfl, rfl⟩ | ⟨rfl, hg⟩
  · exact kCommit_1 a b ga gb xs ys g p d round w h hl hn h1 hg hp
  · exact kCommit_2 a b ga gb xs ys g p d round w h hl hn h1 (hwd rfl).2 hg hg2 hr hp
  · exact kCommit_3 a b ga gb xs ys p d round w h hl hn h1 hp
  · exact kCommit_4 a b ga gb xs ys g p d round w h hl hn h1 hg hp

set_option maxRecDepth 100000 in
set_option maxHeartbeats 2000000 in
theorem knumbers_ok (b g : Nat) (xs : List Int) (w : World) (h : Vec w b g xs) (hn : xs.length ≤ 256) :
    Calls Tryz.prog 23 #[vec b] w fun e w' => ∃ v, e = .returned v ∧ Kept [] w w' ∧ IsRow w' w.heap.size v xs := by
  have mL := m_Len
  have mG := m_Get
  go_enter Tryz.func23, Tryz.ntmps23
  go_wp2_with fail
  refine (Len_ok b g xs _ h).mono ?_
  rintro e w1 ⟨rfl, rfl⟩
  go_wp2_with fail
  go_loopw [3, 9] (fun v i wr => ∃ k : Nat, k ≤ xs.length ∧ i = .int .i64 k ∧ Kept [] w wr ∧ IsRow wr w.heap.size v (xs.take k)) (fun _ i _ => xs.length - (intOf i).toNat)
  case atStart => exact ⟨0, Nat.zero_le _, rfl, Kept.refl _ _, World.ownsRow_nil _ _ _ _⟩
  case round =>
    obtain ⟨k, hk, rfl, hK, hI⟩ := hrel
    have HL := hid (show (xs.take k).length = k by rw [List.length_take]; omega)
    have hv := h.kept hK (by simp) (by simp)
    have HK := hid hK
    have HI := hid hI
    clear hK hI
    by_cases hlt : k < xs.length
    · have d1 : decide ((k : Int) < xs.length) = true := by simpa using hlt
      have HN := hid (take_nth hlt)
      have T5 := hid (show (xs.take k).length + 1 ≤ maxLen by rw [HL.out]; unfold maxLen; omega)
      have T6 := hid (show ((xs.take k).length + 1) * 8 ≤ 140737488355328 by rw [HL.out]; omega)
      go_wp2_with fail
      refine (Get_ok b g xs k _ hv hlt hn).mono ?_
      rintro e w1 ⟨rfl, rfl⟩
      go_wp2_with (at_builtin; go_must (refine wpList_append_any rfl (.tmp 18) (.tmp 20) 47 rfl w.heap.size 57 (.int .u64 0) 1 8 Tryz.underlying47 info_u64' rfl (by decide) _ _ _ rfl (ownsRow_kept HI.out ((Kept.refl [] _).alloc _) (by simp)) _ _ _ [.int .u64 (nth xs k)] rfl rfl (fun h => nomatch h) news_alloc (by simp [Value.oneCell']) T5.out T6.out (Nat.le_trans HK.out.size (by simp)) ?_; intro v2 w2 ho2 hg2; have hk4 := hid ((HK.out.alloc _).grown hg2 (fun j e => .inr (HI.out.lt j e).1))))
      refine ⟨⟨k + 1, by omega, by go_num, hk4.out, ?_⟩, by simp [intOf]; omega⟩
      rw [HN.out]
      simpa [IsRow] using ho2
    · have d1 : decide ((k : Int) < xs.length) = false := by simpa using hlt
      have hke : xs.length = k := by omega
      have HT := hid (show xs.take k = xs by rw [← hke, List.take_length])
      clear hke
      go_wp2_with fail
      go_ret
      exact ⟨_, rfl, HK.out, by rw [HT.out] at HI; exact HI.out⟩

/-! ### Run -/
def shd (sh : List (Nat × List (List Nat))) (i : Nat) : Nat × List (List Nat) := sh.getD i (0, [])
theorem shd_eq {sh : List (Nat × List (List Nat))} {i : Nat} (h : i < sh.length) : shd sh i = sh[i] := by simp [shd, h]
def allEdges (sh : List (Nat × List (List Nat))) : List (Nat × Nat × Nat) := sh.flatMap fun x => edgesOf x.1 x.2
theorem allEdges_next {sh : List (Nat × List (List Nat))} {k : Nat} (h : k < sh.length) : allEdges (sh.take (k + 1)) = allEdges (sh.take k) ++ edgesOf (shd sh k).1 (shd sh k).2 := by
  unfold allEdges
  rw [List.take_succ_eq_append_getElem h, List.flatMap_append, shd_eq h]; simp
/-- Shards in memory, read alone. -/
structure ShardList (w : World) (n : Nat) (a : Option Addr) (sh : List (Nat × List (List Nat))) : Prop where
  cells : ∀ i, i < sh.length → ∃ g o u c, a = some ⟨g, o, none⟩ ∧ w.cell? ⟨g, o + i * 3, none⟩ = some (.int .i64 (shd sh i).1) ∧ w.cell? ⟨g, o + i * 3 + 1, none⟩ = some (.int .i64 (((shd sh i).1 + (shd sh i).2.length : Nat) : Int)) ∧
    w.cell? ⟨g, o + i * 3 + 2, none⟩ = some (.slice u (shd sh i).2.length c) ∧ IsOut w [] u (shd sh i).2
  fits : ∀ i, i < sh.length → (shd sh i).1 + (shd sh i).2.length ≤ n ∧ Within (shd sh i).2 n ∧ ∀ j, j < (shd sh i).2.length → (row (shd sh i).2 j).length ≤ 1000000
theorem ShardList.ext {w w' : World} {n : Nat} {a : Option Addr} {sh : List (Nat × List (List Nat))} (h : ShardList w n a sh) (k : Kept [] w w') : ShardList w' n a sh :=
  ⟨fun i hi => let ⟨g, o, u, c, ha, h0, h1, h2, h3⟩ := h.cells i hi; ⟨g, o, u, c, ha, k.cell_some h0 (by simp), k.cell_some h1 (by simp), k.cell_some h2 (by simp), h3.kept k (by simp)⟩, h.fits⟩
end Go.Proofs.YtedljgohmlilgaaGreat
/-
  The walk of kernels.Run.
-/
namespace Go.Proofs.YtedljgohmlilgaaGreat
open Go.RowKit
set_option linter.unusedVariables false
set_option linter.unusedSimpArgs false

theorem bound_le {k g n : Nat} (h : okReq k g n) (hn : n ≤ 256) : bound k g n ≤ 257 := by
  unfold bound okReq at *
  split <;> omega

set_option maxRecDepth 100000 in
set_option maxHeartbeats 8000000 in
theorem Run_ok (k g p d n : Nat) (a : Option Addr) (sh : List (Nat × List (List Nat))) (c : Nat) (w : World) (hq : okReq k g n) (hp : p ≤ 7) (n1 : 1 ≤ n) (n2 : n ≤ 256) (hs : ShardList w n a sh) (hsl : sh.length ≤ 1000000) :
    Calls Tryz.prog 10 #[rq k g p d, .int .i64 n, .slice a sh.length c] w fun e w' => ∃ v, e = .returned (.tuple #[v, .int .i64 ((runFrom k g n (allEdges sh) (bound k g n) 0).2 : Nat), .int .i64 0]) ∧ Kept [] w w' ∧ IsRow w' w.heap.size v (runFrom k g n (allEdges sh) (bound k g n) 0).1 := by
  obtain ⟨T, hT⟩ : ∃ T, T = allEdges sh := ⟨_, rfl⟩
  have HTT := hid hT
  rw [← hT]
  clear hT
  have BL := bound_le hq n2
  have HS := hid hs; clear hs
  go_enter Tryz.func10, Tryz.ntmps10
  go_wp2_with fail
  have kb : Kept [] w (w.alloc (.cells #[.int .i64 k, .int .i64 g, .int .i64 p, .int .i64 d] 45)) := (Kept.refl _ _).alloc _
  refine (tCheck_ok k g p d n _ hq hp n1 n2).mono ?_
  rintro e w1 ⟨rfl, hk1⟩
  have LC := hid (fun (w' : World) (kk : Kept [] w1 w') => (show w'.cell? ⟨w.heap.size, 0, none⟩ = some (.int .i64 k) ∧ w'.cell? ⟨w.heap.size, 1, none⟩ = some (.int .i64 g) ∧ w'.cell? ⟨w.heap.size, 2, none⟩ = some (.int .i64 p) ∧ w'.cell? ⟨w.heap.size, 3, none⟩ = some (.int .i64 d) from by
    have ho := (hk1.trans kk).obj (new_obj rfl : (w.alloc (.cells #[.int .i64 k, .int .i64 g, .int .i64 p, .int .i64 d] 45)).heap[w.heap.size]? = some (.cells #[.int .i64 k, .int .i64 g, .int .i64 p, .int .i64 d] 45 (0, 0))) (by simp)
    exact ⟨by rw [cell_of_obj ho]; rfl, by rw [cell_of_obj ho]; rfl, by rw [cell_of_obj ho]; rfl, by rw [cell_of_obj ho]; rfl⟩))
  have KB := hid (kb.trans hk1)
  clear kb hk1
  go_wp2_with fail
  refine (New_ok n w1 n2).mono ?_
  rintro e w2 ⟨rfl, hk2, hv2, hz2⟩
  obtain ⟨ga, hga⟩ : ∃ ga, ga = w1.heap.size := ⟨_, rfl⟩
  obtain ⟨pa, hpa⟩ : ∃ pa, pa = w1.heap.size + 1 := ⟨_, rfl⟩
  rw [← hpa, ← hga] at hv2
  rw [← hpa]
  have HZ2 := hid hz2
  have K2 := hid hk2
  have V2 := hid hv2
  have HGA := hid hga
  have HPA := hid hpa
  clear hz2 hk2 hv2 hga hpa
  go_wp2_with fail
  refine (New_ok n w2 n2).mono ?_
  rintro e w3 ⟨rfl, hk3, hv3, hz3⟩
  obtain ⟨gb, hgb⟩ : ∃ gb, gb = w2.heap.size := ⟨_, rfl⟩
  obtain ⟨pb, hpb⟩ : ∃ pb, pb = w2.heap.size + 1 := ⟨_, rfl⟩
  rw [← hpb, ← hgb] at hv3
  rw [← hpb]
  have G := hid (show w1.heap.size ≤ ga ∧ w1.heap.size ≤ gb ∧ ga ≠ pb ∧ gb ≠ pa ∧ ga ≠ gb by have := HZ2.out; have := HGA.out; have := HPA.out; omega)
  have T3 := hid (show Two w3 pa ga pb gb (zeros n) (zeros n) from ⟨V2.out.kept hk3 (by simp) (by simp), hv3, G.out.2.2.1, G.out.2.2.2.1, G.out.2.2.2.2⟩)
  have K3 := hid (K2.out.trans hk3)
  clear hk3 hv3 hz3 hgb hpb V2 HZ2 HGA HPA
  have z1 : (zeros n).length = n := by simp [zeros]
  obtain ⟨b0, b1, b2, b3⟩ := LC.out _ K3.out
  go_wp2_with fail
  refine (kBegin_ok k g p d pa pb ga gb (zeros n) (zeros n) w3 T3.out rfl (by omega) (by omega) (by rw [z1]; exact hq) hp).mono ?_
  rintro e w4 ⟨rfl, hk4, ht4⟩
  rw [z1] at ht4
  have K4 := hid (((K3.out.of_nil.trans hk4).to_nil (by simp; exact ⟨G.out.1, G.out.2.1⟩) : Kept [] w1 w4))
  have T4 := hid (show Two w4 pa ga pb gb (kCurAt k g n T 0) (kAccAt k g n T 0) from ht4)
  clear hk4 ht4 b0 b1 b2 b3 z1
  go_wp2_with fail
  go_loopw [13] (fun i wr => ∃ r : Nat, r ≤ bound k g n ∧ i = .int .i64 r ∧ Kept [] w1 wr ∧ Two wr pa ga pb gb (kCurAt k g n T r) (kAccAt k g n T r) ∧ runFrom k g n T (bound k g n - r) r = runFrom k g n T (bound k g n) 0) (fun i _ => bound k g n - (intOf i).toNat)
  case atStart => exact ⟨0, Nat.zero_le _, rfl, K4.out, T4.out, by rw [Nat.sub_zero]⟩
  case round =>
    clear K4 T4
    obtain ⟨r, hr, rfl, hK, hTw, hR⟩ := hrel
    have K := hid hK
    have TT := hid hTw
    have RR := hid hR
    clear hK hTw hR
    obtain ⟨b0, b1, b2, b3⟩ := LC.out _ K.out
    go_wp2_with fail
    refine (tBound_ok k g p d n _ hq hp n1 n2).mono ?_
    rintro e w5 ⟨rfl, hk5⟩
    have K5 := hid (K.out.trans hk5)
    have T5 := hid (TT.out.ext hk5)
    clear hk5 b0 b1 b2 b3
    have xl := hid (kState_length k g n T r).1
    have al := hid (kState_length k g n T r).2
    have wd := hid (kState_words k g n T r)
    obtain ⟨X, hX⟩ : ∃ X, X = kCurAt k g n T r := ⟨_, rfl⟩
    obtain ⟨A, hA⟩ : ∃ A, A = kAccAt k g n T r := ⟨_, rfl⟩
    have HX := hid hX
    have HA := hid hA
    rw [← hX] at T5 xl wd
    rw [← hA] at T5 al wd
    clear hX hA
    by_cases hrl : r < bound k g n
    · go_wp2_with fail
      go_loopw [59] (fun i wq => ∃ j : Nat, j ≤ sh.length ∧ i = .int .i64 j ∧ Kept [] w1 wq ∧ Two wq pa ga pb gb X (kEdges k r X A (allEdges (sh.take j)))) (fun i _ => sh.length - (intOf i).toNat)
      case atStart => exact ⟨0, Nat.zero_le _, rfl, K5.out, by rw [List.take_zero, show allEdges [] = [] from rfl, kEdges_nil]; exact T5.out⟩
      case round =>
        clear K5 T5 K TT
        obtain ⟨j, hj, rfl, hK, hTw⟩ := hrel
        have K := hid hK
        have TW := hid hTw
        clear hK hTw
        have yl := hid (show (kEdges k r X A (allEdges (sh.take j))).length = n by rw [kEdges_length, al.out])
        have wd2 := hid (kWords_edges (r := r) wd.out (allEdges (sh.take j)))
        by_cases hjl : j < sh.length
        · have d1 : decide ((j : Int) < sh.length) = true := by simpa using hjl
          obtain ⟨sg, so, su, sc, rfl, q0, q1, q2, q3⟩ := (HS.out.ext KB.out).cells j hjl
          replace q0 := K.out.cell_some q0 (by simp)
          replace q1 := K.out.cell_some q1 (by simp)
          replace q2 := K.out.cell_some q2 (by simp)
          replace q3 := (q3.to (L' := [ga, gb]) (fun x hx => .inr (by have := G.out; simp at hx; omega))).kept K.out (by simp)
          obtain ⟨f1, f2, f3⟩ := HS.out.fits j hjl
          have NX := hid (show kEdges k r X A (allEdges (sh.take (j + 1))) = kEdges k r X (kEdges k r X A (allEdges (sh.take j))) (edgesOf (shd sh j).1 (shd sh j).2) by rw [allEdges_next hjl, kEdges_append])
          obtain ⟨fr, hfr⟩ : ∃ fr, (shd sh j).1 = fr := ⟨_, rfl⟩
          obtain ⟨rows, hrows⟩ : ∃ rows, (shd sh j).2 = rows := ⟨_, rfl⟩
          rw [hfr] at q0 q1 f1 NX
          rw [hrows] at q1 q2 q3 f1 f2 f3 NX
          clear hfr hrows
          obtain ⟨m, hm⟩ : ∃ m, rows.length = m := ⟨_, rfl⟩
          have HM := hid hm
          rw [hm] at q1 q2 f1
          clear hm
          obtain ⟨te, hte⟩ : ∃ te, fr + m = te := ⟨_, rfl⟩
          have HTE := hid hte
          rw [hte] at q1 f1
          clear hte
          have F2 := hid f2
          have F3 := hid f3
          have Q3 := hid q3
          clear f2 f3 q3
          have ka := hid ((Kept.refl [] wr).alloc (.cells #[.int .i64 fr, .int .i64 te, .slice su m sc] 43))
          obtain ⟨b0, b1, b2, b3⟩ := LC.out _ K.out
          obtain ⟨v0, v1, v2, v3⟩ := LC.out _ (K.out.trans ka.out)
          have hcs := kShard_ok k g p d [ga, gb] pa pb ga gb _ _ fr (te : Int) su sc rows r (wr.alloc (.cells #[.int .i64 fr, .int .i64 te, .slice su m sc] 43)) (TW.out.ext ka.out) (by rw [xl.out, yl.out]) (by rw [xl.out]; omega) (by rw [xl.out]; omega) (Q3.out.kept ka.out (by simp)) (by simp) (by rw [xl.out]; omega) (by rw [HM.out]; have := HTE.out; omega) (by rw [HM.out]; have := HTE.out; omega) (by rw [xl.out]; exact F2.out) F3.out (by omega) wd2.out (by rw [xl.out]; exact hq) hp
          rw [HM.out] at hcs
          have HC := hid hcs
          clear hcs
          go_wp2_with fail
          refine HC.out.mono ?_
          rintro e w6 ⟨rfl, hk6, ht6⟩
          have K6 := hid (((K.out.trans ka.out).of_nil.trans hk6).to_nil (by simp; exact G.out.2.1))
          have T6 := hid ht6
          clear hk6 ht6 b0 b1 b2 b3 v0 v1 v2 v3 q0 q1 q2 HC
          go_wp2
          exact ⟨⟨j + 1, by omega, by go_num, K6.out, by rw [NX.out]; exact T6.out⟩, by simp [intOf]; omega⟩
        · have d1 : decide ((j : Int) < sh.length) = false := by simpa using hjl
          have FT := hid (show kEdges k r X A (allEdges (sh.take j)) = kFull k g n T r by
            rw [List.take_of_length_le (by omega), ← HTT.out, HX.out, HA.out]; rfl)
          rw [FT.out] at TW yl wd2
          obtain ⟨Y, hY⟩ : ∃ Y, Y = kFull k g n T r := ⟨_, rfl⟩
          have HY := hid hY
          rw [← hY] at TW yl wd2
          clear hY FT
          obtain ⟨b0, b1, b2, b3⟩ := LC.out _ K.out
          go_wp2_with fail
          refine (kCommit_ok k g p d pa pb ga gb X Y r _ TW.out (by rw [xl.out, yl.out]) (by rw [xl.out]; omega) (by rw [xl.out]; omega) (by omega) wd2.out (by rw [xl.out]; exact hq) hp).mono ?_
          rintro e w6 ⟨rfl, hk6, ht6⟩
          rw [xl.out] at ht6
          have K6 := hid ((K.out.of_nil.trans hk6).to_nil (by simp; exact ⟨G.out.1, G.out.2.1⟩))
          have T6 := hid (show Two w6 pa ga pb gb (kCurAt k g n T (r + 1)) (kAccAt k g n T (r + 1)) by rw [kCurAt_succ, kAccAt_succ, ← HY.out, ← HX.out]; exact ht6)
          obtain ⟨D, hD⟩ : ∃ D, kDone k g r X Y = D := ⟨_, rfl⟩
          rw [hD]
          rw [HX.out, HY.out] at hD
          have HD := hid hD
          clear hk6 ht6 hD b0 b1 b2 b3
          obtain ⟨f, hf⟩ : ∃ f, bound k g n - r = f + 1 := ⟨bound k g n - r - 1, by omega⟩
          have HF := hid (show bound k g n - (r + 1) = f by omega)
          have HFF := hid hf
          clear hf
          cases D with
          | true =>
            have RE := hid (show runFrom k g n T (bound k g n) 0 = (kCurAt k g n T (r + 1), r + 1) by rw [← RR.out, HFF.out]; exact runFrom_done HD.out)
            have nl := hid (kState_length k g n T (r + 1)).1
            go_wp2_with fail
            refine (knumbers_ok pa ga _ _ T6.out.cur (by rw [nl.out]; omega)).mono ?_
            rintro e w7 ⟨v7, rfl, hk7, hr7⟩
            have K7 := hid (KB.out.trans (K6.out.trans hk7))
            have R7 := hid (ownsRow_base hr7 (show w.heap.size ≤ w6.heap.size from (KB.out.trans K6.out).size))
            clear hk7 hr7
            go_wp2_with fail
            go_ret3
            exact ⟨v7, by rw [RE.out]; simp, K7.out, by rw [RE.out]; exact R7.out⟩
          | false =>
            have RN := hid (show runFrom k g n T (bound k g n - (r + 1)) (r + 1) = runFrom k g n T (bound k g n) 0 by rw [← RR.out, HFF.out, HF.out]; exact (runFrom_next HD.out).symm)
            go_wp2
            exact ⟨⟨r + 1, by omega, by go_num, K6.out, T6.out, RN.out⟩, by simp [intOf]; omega⟩
    · obtain rfl : r = bound k g n := by omega
      have RE := hid (show runFrom k g n T (bound k g n) 0 = (X, bound k g n) by rw [← RR.out, Nat.sub_self, HX.out]; rfl)
      obtain ⟨b0, b1, b2, b3⟩ := LC.out _ K5.out
      have W5 := hid (show w.heap.size ≤ w5.heap.size from (KB.out.trans K5.out).size)
      go_wp2_with fail
      go_region_held3 (fun w' => w'.cell? ⟨w.heap.size, 0, none⟩ = some (.int .i64 k) ∧ w'.cell? ⟨w.heap.size, 1, none⟩ = some (.int .i64 g) ∧ w'.cell? ⟨w.heap.size, 2, none⟩ = some (.int .i64 p) ∧ w'.cell? ⟨w.heap.size, 3, none⟩ = some (.int .i64 d))
        (first
          | exact ⟨b0, b1, b2, b3⟩
          | exact LC.out _ (K5.out.drew.trans (hkn.trans hkb))
          | exact LC.out _ (K5.out.drew.trans (hkb.trans hkn))
          | exact LC.out _ (K5.out.drew.trans hkn)
          | exact LC.out _ (K5.out.drew.trans hkb))
        (first
          | (go_at_call 20; refine (tBound_ok k g p d n _ hq hp n1 n2).mono ?_; rintro e wb ⟨rfl, hkb⟩)
          | (go_at_call 23; refine (knumbers_ok pa ga X _ (T5.out.cur.kept ((Kept.refl [] w5).drew.trans hkb) (by simp) (by simp)) (by rw [xl.out]; omega)).mono ?_; rintro e wn ⟨vn, rfl, hkn, hrn⟩)
          | (go_at_call 23; refine (knumbers_ok pa ga X _ (T5.out.cur.kept ((Kept.refl [] w5).drew) (by simp) (by simp)) (by rw [xl.out]; omega)).mono ?_; rintro e wn ⟨vn, rfl, hkn, hrn⟩))
      all_goals (first
        | (have HK := hid (KB.out.trans (K5.out.drew.trans (hkb.trans hkn)))
           have HR := hid (ownsRow_base hrn (show w.heap.size ≤ wb.heap.size from Nat.le_trans W5.out hkb.size))
           clear hkb hkn hrn b0 b1 b2 b3
           go_wp2_with fail
           go_ret3
           exact ⟨vn, by rw [RE.out]; rfl, HK.out, by rw [RE.out]; exact HR.out⟩)
        | (have HK := hid (KB.out.trans (K5.out.drew.trans (hkn.trans hkb)))
           have HR := hid (ownsRow_kept (ownsRow_base hrn (show w.heap.size ≤ w5.drew.heap.size from W5.out)) hkb (by simp))
           clear hkb hkn hrn b0 b1 b2 b3
           go_wp2_with fail
           go_ret3
           exact ⟨vn, by rw [RE.out]; rfl, HK.out, by rw [RE.out]; exact HR.out⟩))
end Go.Proofs.YtedljgohmlilgaaGreat
