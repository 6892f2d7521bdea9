/-
  The walk of carousellaw20.CoresCount.
-/
import Derived.Test.YtedljgohmlilgaaGr
import Derived.Test.YtedljgohmlilgaaEndC
namespace Go.Proofs.Ytedljgohmlilgaa
open Go.RowKit
set_option linter.unusedVariables false

def onAt (bs : List Bool) (v : Nat) : Bool := decide (bs.length ≤ v) || flag bs v
def startAt (bs : List Bool) (k i : Nat) : Int := if i < k ∧ onAt bs i = false then 0 else 1
theorem info_bool : (Try.prog.info? 4).map (fun i => (i.zero, i.size, i.bytes)) = some (some (.bool false), 1, 1) := by kernel_rfl

def onCells (bs : List Bool) (n k : Nat) : Array Value := ((List.range n).map fun i => Value.bool (decide (i < k) && onAt bs i)).toArray
theorem onCells_zero (bs : List Bool) (n : Nat) : madeCells #[Value.bool false] n = onCells bs n 0 := by
  apply Array.ext
  · simp [madeCells, onCells]
  · intro i h1 h2
    simp [madeCells, onCells, Nat.mod_one]
theorem onCells_at {bs : List Bool} {n k i : Nat} (h : i < n) : (onCells bs n k)[i]? = some (.bool (decide (i < k) && onAt bs i)) := by simp [onCells, h]
theorem onCells_set (bs : List Bool) (n k : Nat) (h : k < n) : (onCells bs n k).setIfInBounds k (.bool (onAt bs k)) = onCells bs n (k + 1) := by
  apply Array.ext_getElem?
  intro i
  rw [Array.getElem?_setIfInBounds]
  by_cases e : k = i
  · subst e
    rw [if_pos rfl, if_pos (by simp [onCells, h]), onCells_at h]
    simp
  · rw [if_neg e]
    by_cases hi : i < n
    · rw [onCells_at hi, onCells_at hi]
      have : decide (i < k) = decide (i < k + 1) := by
        by_cases q : i < k
        · simp [q, Nat.lt_succ_of_lt q]
        · have : ¬ i < k + 1 := by omega
          simp [q, this]
      rw [this]
    · simp [onCells, hi]
theorem start_zero (bs : List Bool) (n : Nat) : tab (fun _ => 1) n = tab (startAt bs 0) n := tab_congr fun i hi => by simp [startAt]
theorem start_on {bs : List Bool} {n k : Nat} (h : onAt bs k = true) : tab (startAt bs k) n = tab (startAt bs (k + 1)) n := tab_congr fun i hi => by
  unfold startAt
  by_cases e : i = k
  · subst e; simp [h]
  · have : (i < k) = (i < k + 1) := by apply propext; omega
    simp [this]
theorem start_off {bs : List Bool} {n k : Nat} (hk : k < n) (h : onAt bs k = false) : (tab (startAt bs k) n).set k 0 = tab (startAt bs (k + 1)) n := by
  apply list_ext_nth
  · simp [tab_length]
  · intro i hi
    rw [List.length_set, tab_length] at hi
    rw [nth_set, nth_tab _ _ _ hi, nth_tab _ _ _ hi, tab_length]
    unfold startAt
    by_cases e : k = i
    · subst e; simp [h, hi]
    · have : (i < k) = (i < k + 1) := by apply propext; omega
      simp [this, e]

theorem count_cells {ys : List Int} {u v : Nat} (h : u ≠ v) : ((ys.map (Value.int .u64)).toArray.setIfInBounds u (.int .u64 (IntKind.u64.wrap (nth ys u + 1)))).setIfInBounds v (.int .u64 (IntKind.u64.wrap (nth ys v + 1))) = ((inc (inc ys u) v).map (Value.int .u64)).toArray := by
  have e : nth (inc ys u) v = nth ys v := by unfold inc; rw [nth_set, if_neg (by omega)]
  conv => rhs; unfold inc
  have e2 : nth (ys.set u (word (nth ys u + 1))) v = nth ys v := e
  rw [e2, List.map_set, List.map_set, u64_word, u64_word]
  simp
theorem row_len {w : World} {g n : Nat} {xs : List Int} (hn : xs.length = n) (hl : n ≤ maxLen) (ho : w.heap[g]? = some (.cells (xs.map (Value.int .u64)).toArray 36 (0, 0))) : IsRow w 0 (.slice (some ⟨g, 0, none⟩) n n) xs := by
  subst hn; exact row_lit ho hl
/-- What so many edges count. -/
def countTo (bs : List Bool) (n : Nat) (es : List (Nat × Nat)) (k : Nat) : List Int := coresShard (tab (startAt bs n) n) (zeros n) ((es.take k).map fun e => (e.1, e.2, (lead es e.1).length))
theorem countTo_length (bs : List Bool) (n : Nat) (es : List (Nat × Nat)) (k : Nat) : (countTo bs n es k).length = n := by unfold countTo; rw [coresShard_length, zeros_length]
theorem countTo_next {bs : List Bool} {n : Nat} {es : List (Nat × Nat)} {k : Nat} (h : k < es.length) : countTo bs n es (k + 1) = coresEdge (tab (startAt bs n) n) (countTo bs n es k) ((edge es k).1, (edge es k).2, (lead es (edge es k).1).length) := by
  unfold countTo coresShard
  rw [List.take_succ_eq_append_getElem h, List.map_append, List.foldl_append, edge_eq h]
  rfl
theorem start_nth {bs : List Bool} {n u : Nat} (h : u < n) : nth (tab (startAt bs n) n) u = if onAt bs u = false then 0 else 1 := by rw [nth_tab _ _ _ h]; simp [startAt, h]
theorem count_off1 {bs : List Bool} {n u v d : Nat} {ys : List Int} (hu : u < n) (h : onAt bs u = false) : coresEdge (tab (startAt bs n) n) ys (u, v, d) = ys := by
  unfold coresEdge; rw [if_pos (by rw [start_nth hu, if_pos h])]
theorem count_off2 {bs : List Bool} {n u v d : Nat} {ys : List Int} (hv : v < n) (h : onAt bs v = false) : coresEdge (tab (startAt bs n) n) ys (u, v, d) = ys := by
  unfold coresEdge
  split
  · rfl
  · rw [if_pos (by rw [start_nth hv, if_pos h])]
theorem count_on {bs : List Bool} {n u v d : Nat} {ys : List Int} (hu : u < n) (hv : v < n) (h : onAt bs u = true) (h2 : onAt bs v = true) : coresEdge (tab (startAt bs n) n) ys (u, v, d) = inc (inc ys u) v := by
  unfold coresEdge
  rw [if_neg (by rw [start_nth hu, if_neg (by simp [h])]; decide), if_neg (by rw [start_nth hv, if_neg (by simp [h2])]; decide)]
theorem zeros_tab (n : Nat) : tab (fun _ => (0 : Int)) n = zeros n := list_ext_nth (by rw [tab_length, zeros_length]) (fun i hi => by rw [tab_length] at hi; rw [nth_tab _ _ _ hi, nth_eq (by rw [zeros_length]; exact hi)]; simp [zeros])

set_option maxRecDepth 100000 in
set_option maxHeartbeats 4000000 in
theorem CoresCount_main (N many : Nat) (a : Option Addr) (c : Nat) (ps : List (Nat × Nat)) (ad : Option Addr) (cd : Nat) (bs : List Bool) (w : World) (h : IsPairs w a ps) (hb : IsBools w ad bs) (hN : N < 256) (hm : many < 256)
    (hps : ∀ i, i < ps.length → (edge ps i).1 < 256 ∧ (edge ps i).2 < 256) (h1 : ps.length ≤ 300) (h2 : bs.length ≤ 256) :
    Calls Try.prog 9 #[.agg #[.int .u8 N, .slice a ps.length c], .int .u8 many, .slice ad bs.length cd] w fun e w' => e = .returned (.bool true) ∧ Kept [] w w' := by
  have d1 : decide ((300 : Int) < ps.length) = false := by simp; omega
  have d2 : decide ((256 : Int) < bs.length) = false := by simp; omega
  have HG := hid (graphy N ps h1)
  have HPS := hid hps; clear hps
  go_enter Try.func9, Try.ntmps9
  go_wp2_with fail
  have kb : Kept [] w (w.alloc (.cells #[.int .u8 N, .slice a ps.length c] 24)) := (Kept.refl _ _).alloc _
  refine (Made_ok N a c ps _ (h.ext kb) hN HPS.out h1).mono ?_
  obtain ⟨n, hn⟩ : ∃ n, n = 1 + N % 60 := ⟨_, rfl⟩
  obtain ⟨es, hes⟩ : ∃ es, es = normE (told n ps) := ⟨_, rfl⟩
  rw [← hn] at HG ⊢
  rw [← hes] at HG ⊢
  rintro e w1 ⟨v1, rfl, hk1, he1⟩
  have K1 := hid (kb.trans hk1)
  obtain ⟨ea, ec, rfl, hec, hen, hesm⟩ := he1.slice
  have E1 := hid he1
  have ES := hid hesm
  have EN := hid hen
  clear hesm hen
  clear hk1 he1 hn hes kb
  have n1 := HG.out.n1
  have n60 := HG.out.n60
  have el := HG.out.len
  go_wp2_with fail
  refine (Shards_ok _ (.slice ea es.length ec) es n many _ E1.out n1 (by omega) hm (lead_rising HG.out.rise) (by have := HG.out.len; omega)).mono ?_
  rintro e w2 ⟨v2, rfl, hk2, hs2⟩
  have K2 := hid (K1.out.trans hk2)
  have E1K := hid hk2
  have E2 := hid (E1.out.ext hk2)
  obtain ⟨s, hs⟩ : ∃ s, s = parts n many := ⟨_, rfl⟩
  have s1 := parts_pos n many
  have s2 := parts_le many n1
  have s3 := parts_16 many n1
  rw [← hs] at hs2 s1 s2 s3
  obtain ⟨sa, sc, rfl, hsc⟩ := hs2.slice
  rw [cuts_length] at hsc hs2 ⊢
  have S2 := hid hs2
  clear hk2 hs2 hs
  go_wp2_with fail
  refine (Fresh_ok n w2 (by omega)).mono ?_
  rintro e w3 ⟨rfl, hk3, ht3, hz3⟩
  obtain ⟨ga, hga⟩ : ∃ ga, ga = w2.heap.size := ⟨_, rfl⟩
  obtain ⟨pa, hpa⟩ : ∃ pa, pa = w2.heap.size + 1 := ⟨_, rfl⟩
  obtain ⟨pb, hpb⟩ : ∃ pb, pb = w2.heap.size + 3 := ⟨_, rfl⟩
  obtain ⟨gb, hgb⟩ : ∃ gb, gb = w2.heap.size + 2 := ⟨_, rfl⟩
  rw [← hpa, ← hpb, ← hgb, ← hga] at ht3
  rw [← hpa, ← hpb]
  have G := hid (show w2.heap.size ≤ ga ∧ w2.heap.size ≤ gb ∧ w2.heap.size ≤ pa ∧ w2.heap.size ≤ pb ∧ ga < w3.heap.size ∧ gb < w3.heap.size ∧ pa < w3.heap.size ∧ pb < w3.heap.size by omega)
  have K3 := hid hk3
  have T3 := hid ht3
  have nz : ¬ s = 0 := by omega
  have nzb : ((s : Int) == 0) = false := by simp; omega
  clear hk3 ht3 hz3 hga hpa hpb hgb
  have z1 : (zeros n).length = n := by simp [zeros]
  go_wp2_with fail
  refine (coresBegin_ok pa pb ga gb (zeros n) (zeros n) 1 w3 T3.out rfl (by omega) (by omega) (by decide)).mono ?_
  rintro e w4 ⟨rfl, hk4, ht4⟩
  rw [z1] at ht4
  have K4 := hid (((K3.out.of_nil.trans hk4).to_nil (by simp; exact ⟨G.out.1, G.out.2.1⟩) : Kept [] w2 w4))
  have T4 := hid ht4
  have lt4 := hk4.size
  have hmk := run_make_row' (P := Try.prog) 73 4 (.bool false) 1 Try.underlying73 info_bool rfl .i64 .i64 n (by omega) (by omega)
  rw [onCells_zero bs] at hmk
  rw [start_zero bs] at T4
  clear hk4 ht4
  obtain ⟨go, hgo⟩ : ∃ go, go = w4.heap.size := ⟨_, rfl⟩
  have GO := hid (show pa ≠ go ∧ ga ≠ go ∧ pb ≠ go ∧ gb ≠ go ∧ w2.heap.size ≤ go by have := G.out; have := K4.out.size; omega)
  go_wp2_with fail
  rw [← hgo]
  have HGO := hid hgo
  clear hgo
  go_loopw [13] (fun i wr => ∃ k : Nat, k ≤ n ∧ i = .int .i64 k ∧ Kept [] w2 wr ∧ Two wr pa ga pb gb (tab (startAt bs k) n) (tab (fun _ => 0) n) ∧ wr.heap[go]? = some (.cells (onCells bs n k) 4 (0, 0))) (fun i _ => n - (intOf i).toNat)
  case atStart => exact ⟨0, Nat.zero_le _, rfl, K4.out.alloc _, T4.out.ext ((Kept.refl _ _).alloc _), new_obj HGO.out⟩
  case round =>
    obtain ⟨k, hk, rfl, hK, hT, ho⟩ := hrel
    have K := hid hK
    have T := hid hT
    by_cases hlt : k < n
    · have o1 : wr.cell? ⟨go, k, none⟩ = some (.bool (decide (k < k) && onAt bs k)) := by rw [cell_of_obj ho]; exact onCells_at hlt
      have hf := frozen_of_obj ho k
      obtain ⟨x, o1⟩ : ∃ x, wr.cell? ⟨go, k, none⟩ = some x := ⟨_, o1⟩
      have O' := hid (onCells_set bs n k hlt ▸ obj_setCell ho k (.bool (onAt bs k)))
      have kS := hid (((Kept.refl [go] wr).setCell (p := ⟨go, k, none⟩) (.inl (by simp)) (.bool (onAt bs k))))
      have K' := hid (hK.setCell (p := ⟨go, k, none⟩) (.inr GO.out.2.2.2.2) (.bool (onAt bs k)))
      have T' := hid (hT.kept kS.out (by simp; exact ⟨GO.out.1, GO.out.2.1, GO.out.2.2.1, GO.out.2.2.2.1⟩))
      clear hK hT ho kS
      by_cases hge : bs.length ≤ k
      · have HA := hid (show onAt bs k = true by simp [onAt, hge])
        have d3 : decide (bs.length ≤ k) = true := by simpa using hge
        have X := hid (start_on (n := n) HA.out)
        rw [HA.out] at O' K' T'
        clear hge
        go_wp2
        exact ⟨⟨k + 1, by omega, by go_num, K'.out, by rw [← X.out]; exact T'.out, O'.out⟩, by simp [intOf]; omega⟩
      · have d3 : decide (bs.length ≤ k) = false := by simp; omega
        obtain ⟨bb, bo, rfl, q1⟩ := (hb.cells k (by omega))
        replace q1 := (K2.out.trans K.out).cell_some q1 (by simp)
        have kk : k < bs.length := by omega
        cases hfl : flag bs k with
        | true =>
          have HA := hid (show onAt bs k = true by simp [onAt, hge, hfl])
          have X := hid (start_on (n := n) HA.out)
          rw [HA.out] at O' K' T'
          rw [hfl] at q1
          clear hge hfl
          go_wp2
          exact ⟨⟨k + 1, by omega, by go_num, K'.out, by rw [← X.out]; exact T'.out, O'.out⟩, by simp [intOf]; omega⟩
        | false =>
          have HA := hid (show onAt bs k = false by simp [onAt, hge, hfl])
          have X := hid (start_off hlt HA.out)
          rw [HA.out] at O' K' T'
          rw [hfl] at q1
          clear hge hfl
          go_wp2_with fail
          refine (Set_ok pa ga _ k 0 _ T'.out.cur (by rw [tab_length]; exact hlt) (by rw [tab_length]; omega)).mono ?_
          rintro e w5 ⟨rfl, hk5, hv5⟩
          have T5 := hid (T'.out.setCur hk5 hv5)
          have K5 := hid ((K'.out.of_nil.trans hk5).to_nil (by simp; exact G.out.1))
          have O5 := hid (hk5.obj O'.out (by simp; exact fun e => GO.out.2.1 e.symm))
          clear hk5 hv5
          go_wp2
          exact ⟨⟨k + 1, by omega, by go_num, K5.out, by rw [← X.out]; exact T5.out, O5.out⟩, by simp [intOf]; omega⟩
    · have hke : n = k := by omega
      subst hke
      have ON := hid ho
      clear hK hT ho
      have E3 := hid (E2.out.ext K.out)
      go_wp2_with fail
      go_loopw [14] (fun i wq => ∃ k : Nat, k ≤ s ∧ i = .int .i64 k ∧ Kept [] w2 wq ∧ Two wq pa ga pb gb (tab (startAt bs n) n) (coresShard (tab (startAt bs n) n) (tab (fun _ => 0) n) (((cuts n s).take k).flatMap (shardEdges es))) ∧ wq.heap[go]? = some (.cells (onCells bs n n) 4 (0, 0))) (fun i _ => s - (intOf i).toNat)
      case atStart => exact ⟨0, Nat.zero_le _, rfl, K.out, T.out, ON.out⟩
      case round =>
        obtain ⟨k, hk, rfl, hK, hT, ho⟩ := hrel
        have K := hid hK
        have T := hid hT
        have ON := hid ho
        clear hK hT ho
        by_cases hlt : k < s
        · obtain ⟨sg, fr, m, bo, rfl, hcut, hmn, hsh⟩ := S2.out.shard s1 s2 hlt K.out [ga, gb] (by simp; exact ⟨G.out.1, G.out.2.1⟩)
          have C := hid (show coresShard (tab (startAt bs n) n) (tab (fun _ => 0) n) (((cuts n s).take (k + 1)).flatMap (shardEdges es)) = coresShard (tab (startAt bs n) n) (coresShard (tab (startAt bs n) n) (tab (fun _ => 0) n) (((cuts n s).take k).flatMap (shardEdges es))) (edgesOf fr (rowsOf es fr m)) by
            rw [shards_next es hlt, shardEdges_at hcut]; unfold coresShard; rw [List.foldl_append])
          have q0 := hsh.c0
          have q1 := hsh.c1
          have q2 := hsh.c2
          have SH := hid hsh
          have rl := hid (rowsOf_length es fr m)
          have xl := hid (tab_length (startAt bs n) n)
          have yl := hid (show (coresShard (tab (startAt bs n) n) (tab (fun _ => 0) n) (((cuts n s).take k).flatMap (shardEdges es))).length = n by rw [coresShard_length, tab_length])
          clear hcut hsh
          have hcs := coresShard_ok [ga, gb] pa pb ga gb _ _ fr ((fr + m : Nat) : Int) (some ⟨bo, 0, none⟩) m (rowsOf es fr m) 0 wr T.out (by rw [xl.out, yl.out]) (by rw [xl.out]; omega) (by rw [xl.out]; omega) SH.out.out (by simp) (by rw [xl.out]; omega) (by rw [rl.out]; omega) (by rw [rl.out]; omega) (by rw [xl.out]; exact HG.out.within fr m) (HG.out.short fr m)
          rw [rl.out] at hcs
          have HC := hid hcs
          clear hcs
          go_wp2_with fail
          refine HC.out.mono ?_
          rintro e w5 ⟨rfl, hk5, ht5⟩
          have K5 := hid ((K.out.of_nil.trans hk5).to_nil (by simp; exact G.out.2.1))
          have T5 := hid ht5
          have O5 := hid (hk5.obj ON.out (by simp; exact fun e => GO.out.2.2.2.1 e.symm))
          clear hk5 ht5
          go_wp2
          exact ⟨⟨k + 1, by omega, by go_num, K5.out, by rw [C.out]; exact T5.out, O5.out⟩, by simp [intOf]; omega⟩
        · have hke : s = k := by omega
          subst hke
          have CT := hid (show ((cuts n s).take s).flatMap (shardEdges es) = tri es n by rw [List.take_of_length_le (by rw [cuts_length]; omega), shards_all es s1])
          rw [CT.out] at T
          have hmk := run_make_row' (P := Try.prog) 49 36 (.int .u64 0) 8 Try.underlying49 info_u64 rfl .i64 .i64 n (by omega) (by omega)
          rw [madeCells_ints] at hmk
          have W0 := hid (show (zeros n).map (Value.int .u64) = (countTo bs n es 0).map (Value.int .u64) by simp [countTo, coresShard])
          rw [W0.out] at hmk
          obtain ⟨gw, hgw⟩ : ∃ gw, gw = wr.heap.size := ⟨_, rfl⟩
          have GW := hid (show pa ≠ gw ∧ ga ≠ gw ∧ pb ≠ gw ∧ gb ≠ gw ∧ go ≠ gw ∧ w2.heap.size ≤ gw by have := T.out.lt; have := obj_lt ON.out; have := K.out.size; omega)
          go_wp2_with fail
          rw [← hgw]
          have HGW := hid hgw
          clear hgw hmk
          go_loopw [16] (fun i wq => ∃ k : Nat, k ≤ es.length ∧ i = .int .i64 k ∧ Kept [] w2 wq ∧ Two wq pa ga pb gb (tab (startAt bs n) n) (coresShard (tab (startAt bs n) n) (tab (fun _ => 0) n) (tri es n)) ∧ wq.heap[go]? = some (.cells (onCells bs n n) 4 (0, 0)) ∧ wq.heap[gw]? = some (.cells ((countTo bs n es k).map (Value.int .u64)).toArray 36 (0, 0))) (fun i _ => es.length - (intOf i).toNat)
          case atStart => exact ⟨0, Nat.zero_le _, rfl, K.out.alloc _, T.out.ext ((Kept.refl _ _).alloc _), obj_alloc_old ON.out _, new_obj HGW.out⟩
          case round =>
            obtain ⟨k, hk, rfl, hK, hT, ho, hw⟩ := hrel
            have K := hid hK
            have T := hid hT
            have ON := hid ho
            have WN := hid hw
            clear hK hT ho hw
            by_cases hlt : k < es.length
            · have hal : ∃ eg, ea = some ⟨eg, 0, none⟩ ∧ wr.cell? ⟨eg, k * 2, none⟩ = some (.int .i64 (edge es k).1) ∧ wr.cell? ⟨eg, k * 2 + 1, none⟩ = some (.int .i64 (edge es k).2) ∧ eg < w1.heap.size := by
                cases ea with
                | none => have := (EN.out rfl).1; omega
                | some ad =>
                  obtain ⟨g, rfl, _, hgl, hcell⟩ := ES.out ad rfl
                  have h0 := cellsOf_at es k hlt
                  have kk : Kept [] w1 wr := by have := K2.out; exact E1K.out.trans K.out
                  exact ⟨g, rfl, kk.cell_some (hcell _ _ h0.1) (by simp), kk.cell_some (hcell _ _ h0.2) (by simp), hgl⟩
              obtain ⟨eg, rfl, e1, e2, hlg⟩ := hal
              have HLG := hid (show eg < w2.heap.size ∧ w2.heap.size ≤ gw from ⟨Nat.lt_of_lt_of_le hlg E1K.out.size, GW.out.2.2.2.2.2⟩)
              clear hlg
              obtain ⟨u, hu⟩ : ∃ u, (edge es k).1 = u := ⟨_, rfl⟩
              obtain ⟨v, hv⟩ : ∃ v, (edge es k).2 = v := ⟨_, rfl⟩
              have NX := hid (countTo_next (bs := bs) (n := n) hlt)
              have hmem : edge es k ∈ es := by rw [edge_eq hlt]; exact List.getElem_mem _
              have un : u < n := by rw [← hu]; exact HG.out.lt1 _ hmem
              have vn : v < n := by rw [← hv]; exact HG.out.lt2 _ hmem
              rw [hu] at e1
              rw [hv] at e2
              rw [hu, hv] at NX
              have HE1 := hid hu
              have HE2 := hid hv
              clear hu hv hmem
              have ou : wr.cell? ⟨go, u, none⟩ = some (.bool (onAt bs u)) := by rw [cell_of_obj ON.out]; have := onCells_at (bs := bs) (k := n) un; simpa [un] using this
              have ov : wr.cell? ⟨go, v, none⟩ = some (.bool (onAt bs v)) := by rw [cell_of_obj ON.out]; have := onCells_at (bs := bs) (k := n) vn; simpa [vn] using this
              have cl := countTo_length bs n es k
              cases hou : onAt bs u with
              | false =>
                rw [hou] at ou
                have X := hid (count_off1 (v := v) (d := (lead es u).length) (ys := countTo bs n es k) un hou)
                go_wp2
                exact ⟨⟨k + 1, by omega, by go_num, K.out, T.out, ON.out, by rw [NX.out, X.out]; exact WN.out⟩, by simp [intOf]; omega⟩
              | true =>
                rw [hou] at ou
                cases hov : onAt bs v with
                | false =>
                  rw [hov] at ov
                  have X := hid (count_off2 (u := u) (d := (lead es u).length) (ys := countTo bs n es k) vn hov)
                  go_wp2
                  exact ⟨⟨k + 1, by omega, by go_num, K.out, T.out, ON.out, by rw [NX.out, X.out]; exact WN.out⟩, by simp [intOf]; omega⟩
                | true =>
                  rw [hov] at ov
                  have X := hid (count_on (d := (lead es u).length) (ys := countTo bs n es k) un vn hou hov)
                  have uv : u ≠ v := by rw [← HE1.out, ← HE2.out]; exact HG.out.ne _ (by rw [edge_eq hlt]; exact List.getElem_mem _)
                  have gl : eg < gw := by have := HLG.out; omega
                  have w0 : wr.cell? ⟨gw, u, none⟩ = some (.int .u64 (nth (countTo bs n es k) u)) := by rw [cell_of_obj WN.out]; simp [nth, cl, un]
                  have f0 : ∀ i, wr.frozen? ⟨gw, i, none⟩ = false := frozen_of_obj WN.out
                  have w2' : ∀ X, (wr.setCell ⟨gw, u, none⟩ X).cell? ⟨gw, v, none⟩ = some (.int .u64 (nth (countTo bs n es k) v)) := fun X => by
                    rw [World.cell?_setCell_other _ _ _ _ (by simp <;> omega), cell_of_obj WN.out]; simp [nth, cl, vn]
                  have f2 : ∀ X i, (wr.setCell ⟨gw, u, none⟩ X).frozen? ⟨gw, i, none⟩ = false := fun X i => frozen_of_obj (obj_setCell WN.out u X) i
                  have e3 : ∀ X, (wr.setCell ⟨gw, u, none⟩ X).cell? ⟨eg, k * 2 + 1, none⟩ = some (.int .i64 v) := fun X => by
                    rw [World.cell?_setCell_other _ _ _ _ (by simp <;> omega)]; exact e2
                  have K5 := hid ((K.out.setCell (p := ⟨gw, u, none⟩) (.inr GW.out.2.2.2.2.2) (.int .u64 (IntKind.u64.wrap (nth (countTo bs n es k) u + 1)))).setCell (p := ⟨gw, v, none⟩) (.inr GW.out.2.2.2.2.2) (.int .u64 (IntKind.u64.wrap (nth (countTo bs n es k) v + 1))))
                  have kS := (((Kept.refl [gw] wr).setCell (p := ⟨gw, u, none⟩) (.inl (by simp)) (.int .u64 (IntKind.u64.wrap (nth (countTo bs n es k) u + 1)))).setCell (p := ⟨gw, v, none⟩) (.inl (by simp)) (.int .u64 (IntKind.u64.wrap (nth (countTo bs n es k) v + 1))))
                  have T5 := hid (T.out.kept kS (by simp; exact ⟨GW.out.1, GW.out.2.1, GW.out.2.2.1, GW.out.2.2.2.1⟩))
                  have O5 := hid (kS.obj ON.out (by simp; exact GW.out.2.2.2.2.1))
                  have W5 := hid (obj_setCell (obj_setCell WN.out u (.int .u64 (IntKind.u64.wrap (nth (countTo bs n es k) u + 1)))) v (.int .u64 (IntKind.u64.wrap (nth (countTo bs n es k) v + 1))))
                  rw [count_cells uv] at W5
                  clear kS
                  go_wp2
                  exact ⟨⟨k + 1, by omega, by go_num, K5.out, T5.out, O5.out, by rw [NX.out, X.out]; exact W5.out⟩, by simp [intOf]; omega⟩
            · have hke : es.length = k := by omega
              have CE := hid (show coresShard (tab (startAt bs n) n) (tab (fun _ => 0) n) (tri es n) = countTo bs n es k by
                rw [tri_eq HG.out.rise HG.out.lt1, zeros_tab, countTo, ← hke, List.take_length])
              have WR := hid (row_len (countTo_length bs n es k) (by unfold maxLen; omega) WN.out)
              have cl := countTo_length bs n es k
              rw [CE.out] at T
              clear hke
              go_wp2_with fail
              refine (Read_ok pb gb _ _ T.out.acc (by rw [cl]; omega)).mono ?_
              rintro e w5 ⟨v5, rfl, hk5, hr5⟩
              have R5 := hid hr5
              have K5 := hid (K.out.trans hk5)
              have W5 := hid (ownsRow_kept WR.out hk5 (by simp))
              clear hk5 hr5
              go_wp2_with fail
              refine (Numbers_true _ 0 v5 _ _ (countTo bs n es k) _ R5.out W5.out (by rw [cl]; omega) rfl).mono ?_
              rintro e w6 ⟨rfl, hk6⟩
              have K6 := hid (K5.out.trans hk6)
              clear hk6
              go_wp2_with fail
              refine (coresEnds_ok _).mono ?_
              rintro e w7 ⟨rfl, hk7⟩
              have K7 := hid ((K2.out.trans K6.out).trans hk7)
              clear hk7
              go_wp2_with fail
              go_ret
              exact ⟨rfl, K7.out⟩
end Go.Proofs.Ytedljgohmlilgaa
