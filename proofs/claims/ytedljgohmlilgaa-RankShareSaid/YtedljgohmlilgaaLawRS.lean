/-
  The walk of carousellaw18.RankShare.
-/
import Derived.Test.YtedljgohmlilgaaPlR
import Derived.Test.YtedljgohmlilgaaEndR
namespace Go.Proofs.Ytedljgohmlilgaa
open Go.RowKit
set_option linter.unusedVariables false

/-- None of the first so many edges begins at a vertex. -/
def noneTo (es : List (Nat × Nat)) (v j : Nat) : Prop := ∀ i, i < j → (edge es i).1 ≠ v
theorem noneTo_zero (es : List (Nat × Nat)) (v : Nat) : noneTo es v 0 := fun i hi => by omega
theorem noneTo_next {es : List (Nat × Nat)} {v j : Nat} (h : noneTo es v j) (hj : (edge es j).1 ≠ v) : noneTo es v (j + 1) := by
  intro i hi
  by_cases e : i = j
  · subst e; exact hj
  · exact h i (by omega)
theorem gives_none {es : List (Nat × Nat)} {v j : Nat} (h : noneTo es v j) (hj : es.length = j) (xs : List Int) : gives es xs v = 0 := by
  unfold gives
  rw [if_pos]
  rw [List.eq_nil_iff_forall_not_mem]
  intro u hu
  have hm := mem_lead.1 hu
  obtain ⟨i, hi, he⟩ := List.getElem_of_mem hm
  exact h i (by omega) (by rw [edge_eq hi, he])
theorem gives_some {es : List (Nat × Nat)} {v j : Nat} (hj : j < es.length) (h : (edge es j).1 = v) (xs : List Int) : gives es xs v = nth xs v := by
  unfold gives
  rw [if_neg]
  intro e
  have : (edge es j).2 ∈ lead es v := mem_lead.2 (by rw [← h, edge_eq hj]; exact List.getElem_mem _)
  rw [e] at this; simp at this
theorem wsum_none {f : Nat → Int} {k : Nat} (h : f k = 0) : wsum f (k + 1) = wsum f k := by
  have := wsum_in f k
  simp only [wsum]; rw [h, Int.add_zero]; exact word_id this.1 this.2
theorem wsum_some {f : Nat → Int} {k : Nat} {x : Int} (h : f k = x) : IntKind.u64.wrap (wsum f k + x) = wsum f (k + 1) := by
  rw [u64_word, ← h]; rfl
theorem edge_cells {w : World} {ea : Option Addr} {es : List (Nat × Nat)} {L : Nat} (hs : ∀ ad, ea = some ad → ∃ g, ad = ⟨g, 0, none⟩ ∧ L ≤ g ∧ g < w.heap.size ∧ ∀ j u, (cellsOf es)[j]? = some u → w.cell? ⟨g, j, none⟩ = some u) (hn : ea = none → es.length = 0) {w' : World} (k : Kept [] w w') {j : Nat} (hj : j < es.length) :
    ∃ eg, ea = some ⟨eg, 0, none⟩ ∧ w'.cell? ⟨eg, j * 2, none⟩ = some (.int .i64 (edge es j).1) ∧ w'.cell? ⟨eg, j * 2 + 1, none⟩ = some (.int .i64 (edge es j).2) := by
  cases ea with
  | none => have := hn rfl; omega
  | some ad =>
    obtain ⟨g, rfl, _, _, hcell⟩ := hs ad rfl
    have h0 := cellsOf_at es j hj
    exact ⟨g, rfl, k.cell_some (hcell _ _ h0.1) (by simp), k.cell_some (hcell _ _ h0.2) (by simp)⟩
theorem share_ok {H G L : Int} (h1 : G ≤ H) (h3 : word (H - G) ≤ L) : decide (H < G) = false ∧ decide (L < IntKind.u64.wrap (H - G)) = false := by
  rw [u64_word]; constructor <;> simp <;> omega

set_option maxRecDepth 100000 in
set_option maxHeartbeats 4000000 in
theorem RankShare_main (N many : Nat) (a : Option Addr) (c : Nat) (ps : List (Nat × Nat)) (w : World) (h : IsPairs w a ps) (hN : N < 256) (hm : many < 256)
    (hps : ∀ i, i < ps.length → (edge ps i).1 < 256 ∧ (edge ps i).2 < 256) (h1 : ps.length ≤ 300) :
    Calls Try.prog 3 #[.agg #[.int .u8 N, .slice a ps.length c], .int .u8 many] w fun e w' => e = .returned (.bool true) ∧ Kept [] w w' := by
  have d1 : decide ((300 : Int) < ps.length) = false := by simp; omega
  have HG := hid (graphy N ps h1)
  have HPS := hid hps; clear hps
  go_enter Try.func3, Try.ntmps3
  go_wp2_with fail
  have kb : Kept [] w (w.alloc (.cells #[.int .u8 N, .slice a ps.length c] 24)) := (Kept.refl _ _).alloc _
  refine (Made_ok N a c ps _ (h.ext kb) hN HPS.out h1).mono ?_
  obtain ⟨n, hn⟩ : ∃ n, n = 1 + N % 60 := ⟨_, rfl⟩
  obtain ⟨es, hes⟩ : ∃ es, es = normE (told n ps) := ⟨_, rfl⟩
  rw [← hn] at HG ⊢
  rw [← hes] at HG ⊢
  rintro e w1 ⟨v1, rfl, hk1, he1⟩
  have K1 := hid (kb.trans hk1)
  obtain ⟨ea, ec, rfl, hec, hen, hesm⟩ := he1.slice
  have E1 := hid he1
  have ES := hid hesm
  have KB := hid hk1
  have EN := hid hen
  clear hesm hen
  clear hk1 he1 hn hes kb
  have n1 := HG.out.n1
  have n60 := HG.out.n60
  have el := HG.out.len
  go_wp2_with fail
  refine (Shards_ok _ (.slice ea es.length ec) es n many _ E1.out n1 (by omega) hm (lead_rising HG.out.rise) (by have := HG.out.len; omega)).mono ?_
  rintro e w2 ⟨v2, rfl, hk2, hs2⟩
  have K2 := hid (K1.out.trans hk2)
  have E1K := hid hk2
  have E2 := hid (E1.out.ext hk2)
  obtain ⟨s, hs⟩ : ∃ s, s = parts n many := ⟨_, rfl⟩
  have s1 := parts_pos n many
  have s2 := parts_le many n1
  have s3 := parts_16 many n1
  rw [← hs] at hs2 s1 s2 s3
  obtain ⟨sa, sc, rfl, hsc⟩ := hs2.slice
  rw [cuts_length] at hsc hs2 ⊢
  have S2 := hid hs2
  clear hk2 hs2 hs
  go_wp2_with fail
  refine (Fresh_ok n w2 (by omega)).mono ?_
  rintro e w3 ⟨rfl, hk3, ht3, hz3⟩
  obtain ⟨ga, hga⟩ : ∃ ga, ga = w2.heap.size := ⟨_, rfl⟩
  obtain ⟨pa, hpa⟩ : ∃ pa, pa = w2.heap.size + 1 := ⟨_, rfl⟩
  obtain ⟨pb, hpb⟩ : ∃ pb, pb = w2.heap.size + 3 := ⟨_, rfl⟩
  obtain ⟨gb, hgb⟩ : ∃ gb, gb = w2.heap.size + 2 := ⟨_, rfl⟩
  rw [← hpa, ← hpb, ← hgb, ← hga] at ht3
  rw [← hpa, ← hpb]
  have G := hid (show w2.heap.size ≤ ga ∧ w2.heap.size ≤ gb ∧ w2.heap.size ≤ pa ∧ w2.heap.size ≤ pb ∧ ga < w3.heap.size ∧ gb < w3.heap.size ∧ pa < w3.heap.size ∧ pb < w3.heap.size by omega)
  have K3 := hid hk3
  have T3 := hid ht3
  clear hk3 ht3 hz3 hga hpa hpb hgb
  have nz : ¬ s = 0 := by omega
  have nzb : ((s : Int) == 0) = false := by simp; omega
  have z1 : (zeros n).length = n := by simp [zeros]
  go_wp2_with fail
  refine (rankBegin_ok pa pb ga gb (zeros n) (zeros n) 3 w3 T3.out rfl (by omega) (by omega) (by decide) (by decide)).mono ?_
  rintro e w4 ⟨rfl, hk4, ht4⟩
  rw [z1] at ht4
  have K4 := hid (((K3.out.of_nil.trans hk4).to_nil (by simp; exact ⟨G.out.1, G.out.2.1⟩) : Kept [] w2 w4))
  have T4 := hid (show Two w4 pa ga pb gb (rankRow es n 0) (tab (fun _ => 0) n) from ht4)
  have EC := hid (fun (w' : World) (k : Kept [] w2 w') (j : Nat) (hj : j < es.length) => edge_cells ES.out (fun e => (EN.out e).1) (E1K.out.trans k) hj)
  clear hk4 ht4
  go_wp2_with fail
  go_loopw [10] (fun i wr => ∃ r : Nat, r ≤ 3 ∧ i = .int .i64 r ∧ Kept [] w2 wr ∧ Two wr pa ga pb gb (rankRow es n r) (tab (fun _ => 0) n)) (fun i _ => 3 - (intOf i).toNat)
  case atStart => exact ⟨0, Nat.zero_le _, rfl, K4.out, T4.out⟩
  case round =>
    obtain ⟨r, hr, rfl, hK, hT⟩ := hrel
    have K := hid hK
    have T := hid hT
    clear hK hT
    by_cases hlt : r < 3
    · have d3 : decide ((r : Int) < 3) = true := by simp; omega
      have xl := hid (rankRow_length es n r)
      obtain ⟨X, hX⟩ : ∃ X, X = rankRow es n r := ⟨_, rfl⟩
      have HX := hid hX
      have XW := hid (show Words X by rw [hX]; exact rankRow_words es n r)
      rw [← hX] at T xl
      clear hX
      go_wp2_with fail
      go_loop [11, 12] (fun hv v => ∃ k : Nat, k ≤ n ∧ v = .int .i64 k ∧ hv = .int .u64 (wsum (gives es X) k)) (fun _ v => n - (intOf v).toNat)
      case atStart => exact ⟨0, Nat.zero_le _, rfl, rfl⟩
      case round =>
        obtain ⟨k, hk, rfl, rfl⟩ := hrel
        by_cases hkl : k < n
        · have d4 : decide ((k : Int) < n) = true := by simpa using hkl
          go_wp2_with fail
          refine (Get_ok pa ga X k _ T.out.cur (by rw [xl.out]; exact hkl) (by rw [xl.out]; omega)).mono ?_
          rintro e w5 ⟨rfl, rfl⟩
          obtain ⟨x, hx⟩ : ∃ x, nth X k = x := ⟨_, rfl⟩
          have XW0 := XW.out k
          rw [hx] at XW0 ⊢
          have HXk := hid hx
          clear hx
          have WI := wsum_in (gives es X) k
          go_wp2_with fail
          go_loop [11, 15] (fun hv i => ∃ j : Nat, j ≤ es.length ∧ i = .int .i64 j ∧ hv = .int .u64 (wsum (gives es X) k) ∧ noneTo es k j) (fun _ i => es.length - (intOf i).toNat)
          case atStart => exact ⟨0, Nat.zero_le _, rfl, rfl, noneTo_zero es k⟩
          case round =>
            obtain ⟨j, hj, rfl, rfl, hnone⟩ := hrel
            have HNO := hid hnone
            clear hnone
            by_cases hjl : j < es.length
            · have d5 : decide ((j : Int) < es.length) = true := by simpa using hjl
              obtain ⟨eg, rfl, e1, e2⟩ := EC.out _ K.out j hjl
              obtain ⟨u, hu⟩ : ∃ u, (edge es j).1 = u := ⟨_, rfl⟩
              rw [hu] at e1
              have HU := hid hu
              clear hu e2
              by_cases huk : u = k
              · have GS := hid (gives_some (v := k) hjl (by rw [HU.out]; exact huk) X)
                rw [HXk.out] at GS
                have HS := hid (wsum_some GS.out)
                have d6 : ((u : Int) == k) = true := by simp [huk]
                clear huk
                go_wp2
                refine ⟨⟨k + 1, by omega, by go_num, ?_⟩, by simp [intOf]; omega⟩
                first | rw [← HS.out] | (rw [← HS.out]; rfl)
              · have HN2 := hid (noneTo_next HNO.out (by rw [HU.out]; exact huk))
                have d6 : ((u : Int) == k) = false := by simp; omega
                clear huk
                go_wp2
                exact ⟨⟨j + 1, by omega, by go_num, rfl, HN2.out⟩, by simp [intOf]; omega⟩
            · have d5 : decide ((j : Int) < es.length) = false := by simpa using hjl
              have HW := hid (wsum_none (gives_none HNO.out (by omega) X))
              go_wp2
              exact ⟨⟨k + 1, by omega, by go_num, by rw [HW.out]⟩, by simp [intOf]; omega⟩
        · have d4 : decide ((k : Int) < n) = false := by simpa using hkl
          obtain rfl : n = k := by omega
          have WG := wsum_in (gives es X) n
          obtain ⟨H, hH⟩ : ∃ H, wsum (gives es X) n = H := ⟨_, rfl⟩
          rw [hH] at WG ⊢
          have HH := hid hH
          clear hH
          go_wp2_with fail
          go_loopw [16] (fun i wq => ∃ j : Nat, j ≤ s ∧ i = .int .i64 j ∧ Kept [] w2 wq ∧ Two wq pa ga pb gb X (rankShard X (tab (fun _ => 0) n) (((cuts n s).take j).flatMap (shardEdges es)))) (fun i _ => s - (intOf i).toNat)
          case atStart => exact ⟨0, Nat.zero_le _, rfl, K.out, T.out⟩
          case round =>
            obtain ⟨j, hj, rfl, hK, hT⟩ := hrel
            have K := hid hK
            have T := hid hT
            clear hK hT
            have yl := hid (show (rankShard X (tab (fun _ => 0) n) (((cuts n s).take j).flatMap (shardEdges es))).length = n by rw [rankShard_length, tab_length])
            have yw := hid (show Words (rankShard X (tab (fun _ => 0) n) (((cuts n s).take j).flatMap (shardEdges es))) from rankShard_words (Words.tab n (fun _ => by omega)) _)
            by_cases hjl : j < s
            · obtain ⟨sg, fr, m, bo, rfl, hcut, hmn, hsh⟩ := S2.out.shard s1 s2 hjl K.out [ga, gb] (by simp; exact ⟨G.out.1, G.out.2.1⟩)
              have C := hid (show rankShard X (tab (fun _ => 0) n) (((cuts n s).take (j + 1)).flatMap (shardEdges es)) = rankShard X (rankShard X (tab (fun _ => 0) n) (((cuts n s).take j).flatMap (shardEdges es))) (edgesOf fr (rowsOf es fr m)) by
                rw [shards_next es hjl, shardEdges_at hcut]; unfold rankShard; rw [List.foldl_append])
              have q0 := hsh.c0
              have q1 := hsh.c1
              have q2 := hsh.c2
              have SH := hid hsh
              have rl := hid (rowsOf_length es fr m)
              clear hcut hsh
              have hcs := rankShard_ok [ga, gb] pa pb ga gb _ _ fr ((fr + m : Nat) : Int) (some ⟨bo, 0, none⟩) m (rowsOf es fr m) r wr T.out (by rw [xl.out, yl.out]) (by rw [xl.out]; omega) (by rw [xl.out]; omega) SH.out.out (by simp) (by rw [xl.out]; omega) (by rw [rl.out]; omega) (by rw [rl.out]; omega) (by rw [xl.out]; exact HG.out.within fr m) (HG.out.short fr m) XW.out yw.out
              rw [rl.out] at hcs
              have HC := hid hcs
              clear hcs
              go_wp2_with fail
              refine HC.out.mono ?_
              rintro e w5 ⟨rfl, hk5, ht5⟩
              have K5 := hid ((K.out.of_nil.trans hk5).to_nil (by simp; exact G.out.2.1))
              have T5 := hid ht5
              clear hk5 ht5
              go_wp2
              exact ⟨⟨j + 1, by omega, by go_num, K5.out, by rw [C.out]; exact T5.out⟩, by simp [intOf]; omega⟩
            · have CT := hid (show rankShard X (tab (fun _ => 0) n) (((cuts n s).take j).flatMap (shardEdges es)) = rankAcc es n r by
                rw [List.take_of_length_le (by rw [cuts_length]; omega), shards_all es s1, rankAcc, ← HX.out])
              rw [CT.out] at T yl yw
              obtain ⟨Y, hY⟩ : ∃ Y, Y = rankAcc es n r := ⟨_, rfl⟩
              have HY := hid hY
              rw [← hY] at T yl yw
              clear hY CT
              go_wp2_with fail
              go_loop [17, 18] (fun gv v => ∃ i : Nat, i ≤ n ∧ v = .int .i64 i ∧ gv = .int .u64 (wsum (nth Y) i)) (fun _ v => n - (intOf v).toNat)
              case atStart => exact ⟨0, Nat.zero_le _, rfl, rfl⟩
              case round =>
                obtain ⟨i, hi, rfl, rfl⟩ := hrel
                by_cases hil : i < n
                · have d7 : decide ((i : Int) < n) = true := by simpa using hil
                  go_wp2_with fail
                  refine (Get_ok pb gb Y i _ T.out.acc (by rw [yl.out]; exact hil) (by rw [yl.out]; omega)).mono ?_
                  rintro e w5 ⟨rfl, rfl⟩
                  obtain ⟨x, hx⟩ : ∃ x, nth Y i = x := ⟨_, rfl⟩
                  have YW0 := yw.out i
                  rw [hx] at YW0 ⊢
                  have WI := wsum_in (nth Y) i
                  have HS := hid (wsum_some hx)
                  clear hx
                  go_wp2
                  refine ⟨⟨i + 1, by omega, by go_num, ?_⟩, by simp [intOf]; omega⟩
                  first | rw [← HS.out] | (rw [← HS.out]; rfl)
                · have d7 : decide ((i : Int) < n) = false := by simpa using hil
                  obtain rfl : n = i := by omega
                  have sh := rank_share HG.out r (by omega)
                  rw [← HY.out, ← HX.out, HH.out] at sh
                  have WI := wsum_in (nth Y) n
                  obtain ⟨g, hg⟩ : ∃ g, wsum (nth Y) n = g := ⟨_, rfl⟩
                  rw [hg] at sh WI ⊢
                  obtain ⟨b1, b2⟩ := share_ok sh.1 sh.2.2
                  have SH := hid sh
                  clear hg sh
                  have hg1 : g ≤ H := SH.out.1
                  have b3 : decide ((es.length : Int) < H - g) = false := by have := SH.out.2.1; simp; omega
                  go_wp2_with fail
                  refine (rankCommit_ok pa pb ga gb X Y 3 r _ T.out (by rw [xl.out, yl.out]) (by rw [xl.out]; omega) (by rw [xl.out]; omega) yw.out (by omega) (by omega) (by omega)).mono ?_
                  rintro e w6 ⟨rfl, hk6, ht6⟩
                  rw [xl.out] at ht6
                  have K6 := hid ((K.out.of_nil.trans hk6).to_nil (by simp; exact ⟨G.out.1, G.out.2.1⟩))
                  have T6 := hid (show Two w6 pa ga pb gb (rankRow es n (r + 1)) (tab (fun _ => 0) n) by rw [rankRow_succ, ← HY.out]; exact ht6)
                  clear hk6 ht6
                  go_wp2
                  exact ⟨⟨r + 1, by omega, by go_num, K6.out, T6.out⟩, by simp [intOf]; omega⟩
    · have d3 : decide ((r : Int) < 3) = false := by simp; omega
      go_wp2_with fail
      refine (rankEnds_ok _).mono ?_
      rintro e w7 ⟨rfl, hk7⟩
      have K7 := hid ((K2.out.trans K.out).trans hk7)
      clear hk7
      go_wp2_with fail
      go_ret
      exact ⟨rfl, K7.out⟩

set_option maxRecDepth 100000 in
set_option maxHeartbeats 1000000 in
theorem RankShare_ok (N many : Nat) (a : Option Addr) (c : Nat) (ps : List (Nat × Nat)) (w : World) (h : IsPairs w a ps) (hN : N < 256) (hm : many < 256)
    (hps : ∀ i, i < ps.length → (edge ps i).1 < 256 ∧ (edge ps i).2 < 256) :
    Calls Try.prog 3 #[.agg #[.int .u8 N, .slice a ps.length c], .int .u8 many] w fun e w' => e = .returned (.bool true) ∧ Kept [] w w' := by
  by_cases h1 : ps.length ≤ 300
  · exact RankShare_main N many a c ps w h hN hm hps h1
  · have d1 : decide ((300 : Int) < ps.length) = true := by simp; omega
    go_enter Try.func3, Try.ntmps3
    go_wp2_with fail
    have kb : Kept [] w (w.alloc (.cells #[.int .u8 N, .slice a ps.length c] 24)) := (Kept.refl _ _).alloc _
    refine (rankEnds_ok _).mono ?_
    rintro e w7 ⟨rfl, hk7⟩
    have K7 := hid (kb.trans hk7)
    clear hk7 kb
    go_wp2_with fail
    go_ret
    exact ⟨rfl, K7.out⟩
end Go.Proofs.Ytedljgohmlilgaa
