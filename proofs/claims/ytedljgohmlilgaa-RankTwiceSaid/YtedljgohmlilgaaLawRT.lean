/-
  The walk of carousellaw18.RankTwice.
-/
import Derived.Test.YtedljgohmlilgaaPlR
import Derived.Test.YtedljgohmlilgaaEndR
import Derived.Test.YtedljgohmlilgaaOpen2
namespace Go.Proofs.Ytedljgohmlilgaa
open Go.RowKit
set_option linter.unusedVariables false

def startX (xs : List Int) (i : Nat) : Int := if i < xs.length then nth xs i else i
def startY (ys : List Int) (i : Nat) : Int := if i < ys.length then nth ys i else 0
theorem startX_in {xs : List Int} {i : Nat} (h : i < xs.length) : startX xs i = nth xs i := if_pos h
theorem startX_out {xs : List Int} {i : Nat} (h : ¬ i < xs.length) : startX xs i = i := if_neg h
theorem startY_in {ys : List Int} {i : Nat} (h : i < ys.length) : startY ys i = nth ys i := if_pos h
theorem startY_out {ys : List Int} {i : Nat} (h : ¬ i < ys.length) : startY ys i = 0 := if_neg h
theorem setTo_step {g : Nat → Int} {k : Nat} {zs : List Int} {x : Int} (h : g k = x) : (setTo g k zs).set k x = setTo g (k + 1) zs := by subst h; rfl
theorem setTo_zeros (g : Nat → Int) (n : Nat) : setTo g n (zeros n) = tab g n := by
  have := setTo_all g (zeros n)
  rwa [zeros_length] at this
theorem startX_words {xs : List Int} (h : Words xs) {n : Nat} (hn : n ≤ 256) : Words (tab (startX xs) n) := by
  intro i
  by_cases hi : i < n
  · rw [nth_tab _ _ _ hi]; unfold startX; split
    · exact h i
    · omega
  · simp [nth, tab, hi]
theorem startY_words {ys : List Int} (h : Words ys) (n : Nat) : Words (tab (startY ys) n) := Words.tab n fun i => by
  unfold startY; split
  · exact h i
  · omega

set_option maxRecDepth 100000 in
set_option maxHeartbeats 8000000 in
theorem RankTwice_main (N : Nat) (a : Option Addr) (c : Nat) (ps : List (Nat × Nat)) (a1 b1 : Option Addr) (c1 d1 : Nat) (xs ys : List Int) (w : World) (h : IsPairs w a ps) (hxs : IsWords w a1 xs) (hys : IsWords w b1 ys) (hN : N < 256)
    (hps : ∀ i, i < ps.length → (edge ps i).1 < 256 ∧ (edge ps i).2 < 256) (wx : Words xs) (wy : Words ys) (h1 : ps.length ≤ 300) (h2 : xs.length ≤ 256) (h3 : ys.length ≤ 256) :
    Calls Try.prog 4 #[.agg #[.int .u8 N, .slice a ps.length c], .agg #[.slice a1 xs.length c1, .slice b1 ys.length d1]] w fun e w' => e = .returned (.bool true) ∧ Kept [] w w' := by
  have d1' : decide ((300 : Int) < ps.length) = false := by simp; omega
  have d2' : decide ((256 : Int) < xs.length) = false := by simp; omega
  have d3' : decide ((256 : Int) < ys.length) = false := by simp; omega
  have HG := hid (graphy N ps h1)
  have HPS := hid hps; clear hps
  have WX := hid wx; clear wx
  have WY := hid wy; clear wy
  go_enter Try.func4, Try.ntmps4
  go_wp2_with fail
  have kb : Kept [] w ((w.alloc (.cells #[.int .u8 N, .slice a ps.length c] 24)).alloc (.cells #[.slice a1 xs.length c1, .slice b1 ys.length d1] 50)) := ((Kept.refl _ _).alloc _).alloc _
  refine (Made_ok N a c ps _ (h.ext kb) hN HPS.out h1).mono ?_
  obtain ⟨n, hn⟩ : ∃ n, n = 1 + N % 60 := ⟨_, rfl⟩
  obtain ⟨es, hes⟩ : ∃ es, es = normE (told n ps) := ⟨_, rfl⟩
  rw [← hn] at HG ⊢
  rw [← hes] at HG ⊢
  rintro e w1 ⟨v1, rfl, hk1, he1⟩
  have K1 := hid (kb.trans hk1)
  obtain ⟨ea, ec, rfl, hec, hen, hesm⟩ := he1.slice
  have E1 := hid he1
  have ES := hid hesm
  have KB := hid hk1
  have EN := hid hen
  clear hesm hen
  clear hk1 he1 hn hes kb
  have n1 := HG.out.n1
  have n60 := HG.out.n60
  have el := HG.out.len
  go_wp2_with fail
  refine (Shards_ok _ (.slice ea es.length ec) es n 0 _ E1.out n1 (by omega) (by decide) (lead_rising HG.out.rise) (by have := HG.out.len; omega)).mono ?_
  rintro e w2 ⟨v2, rfl, hk2, hs2⟩
  have K2 := hid (K1.out.trans hk2)
  have E1K := hid hk2
  have E2 := hid (E1.out.ext hk2)
  obtain ⟨s, hs⟩ : ∃ s, s = parts n 0 := ⟨_, rfl⟩
  have s1 := parts_pos n 0
  have s2 := parts_le 0 n1
  have s3 := parts_16 0 n1
  rw [← hs] at hs2 s1 s2 s3
  obtain ⟨sa, sc, rfl, hsc⟩ := hs2.slice
  rw [cuts_length] at hsc hs2 ⊢
  have S2 := hid hs2
  have S1 := hid (show s = 1 by rw [hs]; unfold parts; simp)
  clear hk2 hs2 hs
  go_wp2_with fail
  refine (Fresh_ok n w2 (by omega)).mono ?_
  rintro e w3 ⟨rfl, hk3, ht3, hz3⟩
  obtain ⟨ga, hga⟩ : ∃ ga, ga = w2.heap.size := ⟨_, rfl⟩
  obtain ⟨pa, hpa⟩ : ∃ pa, pa = w2.heap.size + 1 := ⟨_, rfl⟩
  obtain ⟨pb, hpb⟩ : ∃ pb, pb = w2.heap.size + 3 := ⟨_, rfl⟩
  obtain ⟨gb, hgb⟩ : ∃ gb, gb = w2.heap.size + 2 := ⟨_, rfl⟩
  rw [← hpa, ← hpb, ← hgb, ← hga] at ht3
  rw [← hpa, ← hpb]
  have G := hid (show w2.heap.size ≤ ga ∧ w2.heap.size ≤ gb ∧ w2.heap.size ≤ pa ∧ w2.heap.size ≤ pb ∧ ga < w3.heap.size ∧ gb < w3.heap.size ∧ pa < w3.heap.size ∧ pb < w3.heap.size by omega)
  have K3 := hid hk3
  have T3 := hid ht3
  clear hk3 ht3 hz3 hga hpa hpb hgb
  go_wp2_with fail
  refine (Fresh_ok n w3 (by omega)).mono ?_
  rintro e w4 ⟨rfl, hk4, ht4, hz4⟩
  obtain ⟨gc, hgc⟩ : ∃ gc, gc = w3.heap.size := ⟨_, rfl⟩
  obtain ⟨pc, hpc⟩ : ∃ pc, pc = w3.heap.size + 1 := ⟨_, rfl⟩
  obtain ⟨pd, hpd⟩ : ∃ pd, pd = w3.heap.size + 3 := ⟨_, rfl⟩
  obtain ⟨gd, hgd⟩ : ∃ gd, gd = w3.heap.size + 2 := ⟨_, rfl⟩
  rw [← hpc, ← hpd, ← hgd, ← hgc] at ht4
  rw [← hpc, ← hpd]
  have G2 := hid (show w2.heap.size ≤ gc ∧ w2.heap.size ≤ gd ∧ gc ≠ pa ∧ gc ≠ ga ∧ gc ≠ pb ∧ gc ≠ gb ∧ gd ≠ pa ∧ gd ≠ ga ∧ gd ≠ pb ∧ gd ≠ gb ∧ ga ≠ pc ∧ ga ≠ gc ∧ ga ≠ pd ∧ ga ≠ gd ∧ gb ≠ pc ∧ gb ≠ gc ∧ gb ≠ pd ∧ gb ≠ gd by have := G.out; have := K3.out.size; omega)
  have K4 := hid (K3.out.trans hk4)
  have T4 := hid (T3.out.ext hk4)
  have U4 := hid ht4
  clear hk4 ht4 hz4 hgc hpc hpd hgd
  have LC := hid (fun (w' : World) (k : Kept [] w2 w') => (show w'.cell? ⟨w.heap.size + 1, 0, none⟩ = some (.slice a1 xs.length c1) ∧ w'.cell? ⟨w.heap.size + 1, 1, none⟩ = some (.slice b1 ys.length d1) from by
    have ho : ((w.alloc (.cells #[.int .u8 N, .slice a ps.length c] 24)).alloc (.cells #[.slice a1 xs.length c1, .slice b1 ys.length d1] 50)).heap[w.heap.size + 1]? = some (.cells #[.slice a1 xs.length c1, .slice b1 ys.length d1] 50 (0, 0)) := new_obj (by simp)
    have ho2 := ((KB.out.trans E1K.out).trans k).obj ho (by simp)
    exact ⟨by rw [cell_of_obj ho2]; rfl, by rw [cell_of_obj ho2]; rfl⟩))
  have z1 : (zeros n).length = n := by simp [zeros]
  have G5 := hid (show pc ≠ ga ∧ gc ≠ ga ∧ pd ≠ ga ∧ gd ≠ ga by have := G2.out; omega)
  have G6 := hid (show pc ≠ gb ∧ gc ≠ gb ∧ pd ≠ gb ∧ gd ≠ gb by have := G2.out; omega)
  have G7 := hid (show pa ≠ gc ∧ ga ≠ gc ∧ pb ≠ gc ∧ gb ≠ gc by have := G2.out; omega)
  have G8 := hid (show pa ≠ gd ∧ ga ≠ gd ∧ pb ≠ gd ∧ gb ≠ gd by have := G2.out; omega)
  go_wp2_with fail
  go_loopw [12] (fun i wr => ∃ k : Nat, k ≤ n ∧ i = .int .i64 k ∧ Kept [] w2 wr ∧ Two wr pa ga pb gb (setTo (startX xs) k (zeros n)) (setTo (startY ys) k (zeros n)) ∧ Two wr pc gc pd gd (setTo (startX xs) k (zeros n)) (zeros n)) (fun i _ => n - (intOf i).toNat)
  case atStart => exact ⟨0, Nat.zero_le _, rfl, K4.out, T4.out, U4.out⟩
  case round =>
    obtain ⟨k, hk, rfl, hK, hT, hU⟩ := hrel
    have K := hid hK
    have T := hid hT
    have U := hid hU
    clear hK hT hU
    have l1 := hid (show (setTo (startX xs) k (zeros n)).length = n by rw [setTo_length, z1])
    have l2 := hid (show (setTo (startY ys) k (zeros n)).length = n by rw [setTo_length, z1])
    obtain ⟨q0, q1⟩ := LC.out _ K.out
    by_cases hlt : k < n
    · by_cases hxl : k < xs.length
      · by_cases hyl : k < ys.length
        · have d3 : decide (k < xs.length) = true := by simpa using hxl
          obtain ⟨xb, xo, rfl, x0⟩ := (hxs.cells k hxl)
          replace x0 := (K2.out.trans K.out).cell_some x0 (by simp)
          obtain ⟨x, hx⟩ : ∃ x, nth xs k = x := ⟨_, rfl⟩
          rw [hx] at x0
          have XS := hid ((startX_in hxl).trans hx)
          clear hx
          have d4 : decide (k < ys.length) = true := by simpa using hyl
          obtain ⟨yb, yo, rfl, y0⟩ := (hys.cells k hyl)
          replace y0 := (K2.out.trans K.out).cell_some y0 (by simp)
          obtain ⟨y, hy⟩ : ∃ y, nth ys k = y := ⟨_, rfl⟩
          rw [hy] at y0
          have YS := hid ((startY_in hyl).trans hy)
          clear hy
          go_wp2_with fail
          refine (Set_ok pa ga _ k _ _ T.out.cur (by rw [l1.out]; exact hlt) (by rw [l1.out]; omega)).mono ?_
          rintro e w5 ⟨rfl, hk5, hv5⟩
          have T5 := hid (T.out.setCur hk5 hv5)
          have U5 := hid (U.out.kept hk5 (by simp; exact G5.out))
          have K5 := hid ((K.out.of_nil.trans hk5).to_nil (by simp; exact G.out.1))
          clear hk5 hv5
          go_wp2_with fail
          refine (Set_ok pb gb _ k _ _ T5.out.acc (by rw [l2.out]; exact hlt) (by rw [l2.out]; omega)).mono ?_
          rintro e w6 ⟨rfl, hk6, hv6⟩
          have T6 := hid (T5.out.setAcc hk6 hv6)
          have U6 := hid (U5.out.kept hk6 (by simp; exact G6.out))
          have K6 := hid ((K5.out.of_nil.trans hk6).to_nil (by simp; exact G.out.2.1))
          clear hk6 hv6
          go_wp2_with fail
          refine (Set_ok pc gc _ k _ _ U6.out.cur (by rw [l1.out]; exact hlt) (by rw [l1.out]; omega)).mono ?_
          rintro e w7 ⟨rfl, hk7, hv7⟩
          have U7 := hid (U6.out.setCur hk7 hv7)
          have T7 := hid (T6.out.kept hk7 (by simp; exact G7.out))
          have K7 := hid ((K6.out.of_nil.trans hk7).to_nil (by simp; exact G2.out.1))
          clear hk7 hv7
          rw [setTo_step XS.out] at U7
          rw [setTo_step XS.out, setTo_step YS.out] at T7
          go_wp2
          exact ⟨⟨k + 1, by omega, by go_num, K7.out, T7.out, U7.out⟩, by simp [intOf]; omega⟩
        · have d3 : decide (k < xs.length) = true := by simpa using hxl
          obtain ⟨xb, xo, rfl, x0⟩ := (hxs.cells k hxl)
          replace x0 := (K2.out.trans K.out).cell_some x0 (by simp)
          obtain ⟨x, hx⟩ : ∃ x, nth xs k = x := ⟨_, rfl⟩
          rw [hx] at x0
          have XS := hid ((startX_in hxl).trans hx)
          clear hx
          have d4 : decide (k < ys.length) = false := by simpa using hyl
          have YS := hid (startY_out hyl)
          go_wp2_with fail
          refine (Set_ok pa ga _ k _ _ T.out.cur (by rw [l1.out]; exact hlt) (by rw [l1.out]; omega)).mono ?_
          rintro e w5 ⟨rfl, hk5, hv5⟩
          have T5 := hid (T.out.setCur hk5 hv5)
          have U5 := hid (U.out.kept hk5 (by simp; exact G5.out))
          have K5 := hid ((K.out.of_nil.trans hk5).to_nil (by simp; exact G.out.1))
          clear hk5 hv5
          go_wp2_with fail
          refine (Set_ok pb gb _ k _ _ T5.out.acc (by rw [l2.out]; exact hlt) (by rw [l2.out]; omega)).mono ?_
          rintro e w6 ⟨rfl, hk6, hv6⟩
          have T6 := hid (T5.out.setAcc hk6 hv6)
          have U6 := hid (U5.out.kept hk6 (by simp; exact G6.out))
          have K6 := hid ((K5.out.of_nil.trans hk6).to_nil (by simp; exact G.out.2.1))
          clear hk6 hv6
          go_wp2_with fail
          refine (Set_ok pc gc _ k _ _ U6.out.cur (by rw [l1.out]; exact hlt) (by rw [l1.out]; omega)).mono ?_
          rintro e w7 ⟨rfl, hk7, hv7⟩
          have U7 := hid (U6.out.setCur hk7 hv7)
          have T7 := hid (T6.out.kept hk7 (by simp; exact G7.out))
          have K7 := hid ((K6.out.of_nil.trans hk7).to_nil (by simp; exact G2.out.1))
          clear hk7 hv7
          rw [setTo_step XS.out] at U7
          rw [setTo_step XS.out, setTo_step YS.out] at T7
          go_wp2
          exact ⟨⟨k + 1, by omega, by go_num, K7.out, T7.out, U7.out⟩, by simp [intOf]; omega⟩
      · by_cases hyl : k < ys.length
        · have d3 : decide (k < xs.length) = false := by simpa using hxl
          have XS := hid (startX_out hxl)
          have d4 : decide (k < ys.length) = true := by simpa using hyl
          obtain ⟨yb, yo, rfl, y0⟩ := (hys.cells k hyl)
          replace y0 := (K2.out.trans K.out).cell_some y0 (by simp)
          obtain ⟨y, hy⟩ : ∃ y, nth ys k = y := ⟨_, rfl⟩
          rw [hy] at y0
          have YS := hid ((startY_in hyl).trans hy)
          clear hy
          go_wp2_with fail
          refine (Set_ok pa ga _ k _ _ T.out.cur (by rw [l1.out]; exact hlt) (by rw [l1.out]; omega)).mono ?_
          rintro e w5 ⟨rfl, hk5, hv5⟩
          have T5 := hid (T.out.setCur hk5 hv5)
          have U5 := hid (U.out.kept hk5 (by simp; exact G5.out))
          have K5 := hid ((K.out.of_nil.trans hk5).to_nil (by simp; exact G.out.1))
          clear hk5 hv5
          go_wp2_with fail
          refine (Set_ok pb gb _ k _ _ T5.out.acc (by rw [l2.out]; exact hlt) (by rw [l2.out]; omega)).mono ?_
          rintro e w6 ⟨rfl, hk6, hv6⟩
          have T6 := hid (T5.out.setAcc hk6 hv6)
          have U6 := hid (U5.out.kept hk6 (by simp; exact G6.out))
          have K6 := hid ((K5.out.of_nil.trans hk6).to_nil (by simp; exact G.out.2.1))
          clear hk6 hv6
          go_wp2_with fail
          refine (Set_ok pc gc _ k _ _ U6.out.cur (by rw [l1.out]; exact hlt) (by rw [l1.out]; omega)).mono ?_
          rintro e w7 ⟨rfl, hk7, hv7⟩
          have U7 := hid (U6.out.setCur hk7 hv7)
          have T7 := hid (T6.out.kept hk7 (by simp; exact G7.out))
          have K7 := hid ((K6.out.of_nil.trans hk7).to_nil (by simp; exact G2.out.1))
          clear hk7 hv7
          rw [setTo_step XS.out] at U7
          rw [setTo_step XS.out, setTo_step YS.out] at T7
          go_wp2
          exact ⟨⟨k + 1, by omega, by go_num, K7.out, T7.out, U7.out⟩, by simp [intOf]; omega⟩
        · have d3 : decide (k < xs.length) = false := by simpa using hxl
          have XS := hid (startX_out hxl)
          have d4 : decide (k < ys.length) = false := by simpa using hyl
          have YS := hid (startY_out hyl)
          go_wp2_with fail
          refine (Set_ok pa ga _ k _ _ T.out.cur (by rw [l1.out]; exact hlt) (by rw [l1.out]; omega)).mono ?_
          rintro e w5 ⟨rfl, hk5, hv5⟩
          have T5 := hid (T.out.setCur hk5 hv5)
          have U5 := hid (U.out.kept hk5 (by simp; exact G5.out))
          have K5 := hid ((K.out.of_nil.trans hk5).to_nil (by simp; exact G.out.1))
          clear hk5 hv5
          go_wp2_with fail
          refine (Set_ok pb gb _ k _ _ T5.out.acc (by rw [l2.out]; exact hlt) (by rw [l2.out]; omega)).mono ?_
          rintro e w6 ⟨rfl, hk6, hv6⟩
          have T6 := hid (T5.out.setAcc hk6 hv6)
          have U6 := hid (U5.out.kept hk6 (by simp; exact G6.out))
          have K6 := hid ((K5.out.of_nil.trans hk6).to_nil (by simp; exact G.out.2.1))
          clear hk6 hv6
          go_wp2_with fail
          refine (Set_ok pc gc _ k _ _ U6.out.cur (by rw [l1.out]; exact hlt) (by rw [l1.out]; omega)).mono ?_
          rintro e w7 ⟨rfl, hk7, hv7⟩
          have U7 := hid (U6.out.setCur hk7 hv7)
          have T7 := hid (T6.out.kept hk7 (by simp; exact G7.out))
          have K7 := hid ((K6.out.of_nil.trans hk7).to_nil (by simp; exact G2.out.1))
          clear hk7 hv7
          rw [setTo_step XS.out] at U7
          rw [setTo_step XS.out, setTo_step YS.out] at T7
          go_wp2
          exact ⟨⟨k + 1, by omega, by go_num, K7.out, T7.out, U7.out⟩, by simp [intOf]; omega⟩
    · obtain rfl : k = n := by omega
      rw [setTo_zeros, setTo_zeros] at T
      rw [setTo_zeros] at U
      have XW := hid (startX_words WX.out (n := k) (by omega))
      have YW := hid (startY_words WY.out k)
      have xl := hid (tab_length (startX xs) k)
      have yl := hid (tab_length (startY ys) k)
      obtain ⟨X, hX⟩ : ∃ X, X = tab (startX xs) k := ⟨_, rfl⟩
      obtain ⟨Y, hY⟩ : ∃ Y, Y = tab (startY ys) k := ⟨_, rfl⟩
      rw [← hX] at T U XW xl
      rw [← hY] at T YW yl
      have HY := hid hY
      clear hX hY l1 l2
      obtain ⟨sg, fr, m, bo, rfl, hcut, hmn, hsh⟩ := S2.out.shard s1 s2 (i := 0) (by omega) K.out [ga, gb, gc, gd] (by simp; exact ⟨G.out.1, G.out.2.1, G2.out.1, G2.out.2.1⟩)
      have q2 := hsh.c0
      have q3 := hsh.c1
      have q4 := hsh.c2
      simp only [Nat.zero_mul, Nat.zero_add] at q2 q3 q4
      have SH := hid hsh
      have rl := hid (rowsOf_length es fr m)
      clear hcut hsh
      have ZW := hid (Words.tab k (g := fun _ => 0) (fun _ => by omega))
      rw [tab_zeros] at ZW
      have nb : ((s : Int) != 1) = false := by have := S1.out; simp; omega
      have nb2 : 0 < s := by omega
      have hcs := rankShard_ok [ga, gb, gc, gd] pa pb ga gb _ _ fr ((fr + m : Nat) : Int) (some ⟨bo, 0, none⟩) m (rowsOf es fr m) 0 wr T.out (by rw [xl.out, yl.out]) (by rw [xl.out]; omega) (by rw [xl.out]; omega) SH.out.out (by simp) (by rw [xl.out]; omega) (by rw [rl.out]; omega) (by rw [rl.out]; omega) (by rw [xl.out]; exact HG.out.within fr m) (HG.out.short fr m) XW.out YW.out
      rw [rl.out] at hcs
      have HC := hid hcs
      clear hcs
      go_wp2_with fail
      refine HC.out.mono ?_
      rintro e w5 ⟨rfl, hk5, ht5⟩
      have T5 := hid ht5
      have U5 := hid (U.out.kept hk5 (by simp; exact G6.out))
      have K5 := hid ((K.out.of_nil.trans hk5).to_nil (by simp; exact G.out.2.1))
      have K5b := hid hk5
      clear hk5 ht5 q2 q3 q4
      have SG := hid (show sg ∉ [gb] ∧ sg ∉ [gd] by have := S2.out.lt s1 s2; have := G.out; have := G2.out; simp; omega)
      have SH5 := hid (SH.out.kept K5b.out SG.out.1 (by simp))
      clear HC
      obtain ⟨Y2, hY2⟩ : ∃ Y2, Y2 = rankShard X Y (edgesOf fr (rowsOf es fr m)) := ⟨_, rfl⟩
      have HY2 := hid hY2
      have yl2 := hid (show Y2.length = k by rw [hY2, rankShard_length, yl.out])
      have YW2 := hid (show Words Y2 by rw [hY2]; exact rankShard_words YW.out _)
      rw [← hY2] at T5
      clear hY2
      have q2 := SH5.out.c0
      have q3 := SH5.out.c1
      have q4 := SH5.out.c2
      simp only [Nat.zero_mul, Nat.zero_add] at q2 q3 q4
      have hcs := rankShard_ok [ga, gb, gc, gd] pa pb ga gb _ _ fr ((fr + m : Nat) : Int) (some ⟨bo, 0, none⟩) m (rowsOf es fr m) 0 w5 T5.out (by rw [xl.out, yl2.out]) (by rw [xl.out]; omega) (by rw [xl.out]; omega) SH5.out.out (by simp) (by rw [xl.out]; omega) (by rw [rl.out]; omega) (by rw [rl.out]; omega) (by rw [xl.out]; exact HG.out.within fr m) (HG.out.short fr m) XW.out YW2.out
      rw [rl.out] at hcs
      have HC := hid hcs
      clear hcs
      go_wp2_with fail
      refine HC.out.mono ?_
      rintro e w6 ⟨rfl, hk6, ht6⟩
      have T6 := hid ht6
      have U6 := hid (U5.out.kept hk6 (by simp; exact G6.out))
      have K6 := hid ((K5.out.of_nil.trans hk6).to_nil (by simp; exact G.out.2.1))
      have SH6 := hid (SH5.out.kept hk6 SG.out.1 (by simp))
      clear hk6 ht6 q2 q3 q4 HC
      obtain ⟨Y3, hY3⟩ : ∃ Y3, Y3 = rankShard X Y2 (edgesOf fr (rowsOf es fr m)) := ⟨_, rfl⟩
      have HY3 := hid hY3
      have yl3 := hid (show Y3.length = k by rw [hY3, rankShard_length, yl2.out])
      rw [← hY3] at T6
      clear hY3
      have q2 := SH6.out.c0
      have q3 := SH6.out.c1
      have q4 := SH6.out.c2
      simp only [Nat.zero_mul, Nat.zero_add] at q2 q3 q4
      have hcs := rankShard_ok [ga, gb, gc, gd] pc pd gc gd _ _ fr ((fr + m : Nat) : Int) (some ⟨bo, 0, none⟩) m (rowsOf es fr m) 0 w6 U6.out (by rw [xl.out, z1]) (by rw [xl.out]; omega) (by rw [xl.out]; omega) SH6.out.out (by simp) (by rw [xl.out]; omega) (by rw [rl.out]; omega) (by rw [rl.out]; omega) (by rw [xl.out]; exact HG.out.within fr m) (HG.out.short fr m) XW.out ZW.out
      rw [rl.out] at hcs
      have HC := hid hcs
      clear hcs
      go_wp2_with fail
      refine HC.out.mono ?_
      rintro e w7 ⟨rfl, hk7, ht7⟩
      have U7 := hid ht7
      have T7 := hid (T6.out.kept hk7 (by simp; exact G8.out))
      have K7 := hid ((K6.out.of_nil.trans hk7).to_nil (by simp; exact G2.out.2.1))
      clear hk7 ht7 q2 q3 q4 HC q0 q1
      obtain ⟨Z, hZ⟩ : ∃ Z, Z = rankShard X (zeros k) (edgesOf fr (rowsOf es fr m)) := ⟨_, rfl⟩
      have zl := hid (show Z.length = k by rw [hZ, rankShard_length, z1])
      have TW := hid (fun (v : Nat) (hv : v < k) => (show nth Y3 v = word (word (startY ys v + nth Z v) + nth Z v) by
        have e := rank_twice (xs := X) (edgesOf fr (rowsOf es fr m)) yl.out z1 YW.out ZW.out (nth_zeros k) hv
        rw [HY3.out, HY2.out, hZ, e, HY.out, nth_tab _ _ _ hv]))
      rw [← hZ] at U7
      clear hZ
      obtain ⟨q0, q1⟩ := LC.out _ K7.out
      go_wp2_with fail
      go_loop [15] (fun i => ∃ j : Nat, j ≤ k ∧ i = .int .i64 j) (fun i => k - (intOf i).toNat)
      case atStart => exact ⟨0, Nat.zero_le _, rfl⟩
      case round =>
        obtain ⟨j, hj, rfl⟩ := hrel
        by_cases hjl : j < k
        · have d5 : decide ((j : Int) < k) = true := by simpa using hjl
          go_wp2_with fail
          refine (Get_ok pb gb Y3 j _ T7.out.acc (by rw [yl3.out]; exact hjl) (by rw [yl3.out]; omega)).mono ?_
          rintro e w8 ⟨rfl, rfl⟩
          go_wp2_with fail
          refine (Get_ok pd gd Z j _ U7.out.acc (by rw [zl.out]; exact hjl) (by rw [zl.out]; omega)).mono ?_
          rintro e w8 ⟨rfl, rfl⟩
          have tw := TW.out j hjl
          obtain ⟨x, hx⟩ : ∃ x, nth Y3 j = x := ⟨_, rfl⟩
          obtain ⟨z, hz⟩ : ∃ z, nth Z j = z := ⟨_, rfl⟩
          rw [hx, hz] at tw ⊢
          clear hx hz
          by_cases hyl : j < ys.length
          · have d6 : decide (j < ys.length) = true := by simpa using hyl
            obtain ⟨yb, yo, rfl, y0⟩ := (hys.cells j hyl)
            replace y0 := (K2.out.trans K7.out).cell_some y0 (by simp)
            rw [startY_in hyl] at tw
            obtain ⟨y, hy⟩ : ∃ y, nth ys j = y := ⟨_, rfl⟩
            rw [hy] at tw y0
            have d7 : (x != IntKind.u64.wrap (IntKind.u64.wrap (y + z) + z)) = false := by rw [u64_word, u64_word, tw]; simp
            clear hy tw
            go_wp2
            exact ⟨⟨j + 1, by omega, by go_num⟩, by simp [intOf]; omega⟩
          · have d6 : decide (j < ys.length) = false := by simpa using hyl
            rw [startY_out hyl, Int.zero_add] at tw
            have d7 : (x != IntKind.u64.wrap (IntKind.u64.wrap (0 + z) + z)) = false := by rw [u64_word, u64_word, tw]; simp
            have d8 : (x != IntKind.u64.wrap (IntKind.u64.wrap z + z)) = false := by rw [u64_word, u64_word, tw]; simp
            clear tw
            go_wp2
            exact ⟨⟨j + 1, by omega, by go_num⟩, by simp [intOf]; omega⟩
        · have d5 : decide ((j : Int) < k) = false := by simpa using hjl
          go_wp2_with fail
          refine (rankEnds_ok _).mono ?_
          rintro e w8 ⟨rfl, hk8⟩
          have K8 := hid ((K2.out.trans K7.out).trans hk8)
          clear hk8
          go_wp2_with fail
          go_ret
          exact ⟨rfl, K8.out⟩

set_option maxRecDepth 100000 in
set_option maxHeartbeats 2000000 in
theorem RankTwice_ok (N : Nat) (a : Option Addr) (c : Nat) (ps : List (Nat × Nat)) (a1 b1 : Option Addr) (c1 d1 : Nat) (xs ys : List Int) (w : World) (h : IsPairs w a ps) (hxs : IsWords w a1 xs) (hys : IsWords w b1 ys) (hN : N < 256)
    (hps : ∀ i, i < ps.length → (edge ps i).1 < 256 ∧ (edge ps i).2 < 256) (wx : Words xs) (wy : Words ys) :
    Calls Try.prog 4 #[.agg #[.int .u8 N, .slice a ps.length c], .agg #[.slice a1 xs.length c1, .slice b1 ys.length d1]] w fun e w' => e = .returned (.bool true) ∧ Kept [] w w' := by
  by_cases h1 : ps.length ≤ 300
  · by_cases h2 : xs.length ≤ 256
    · by_cases h3 : ys.length ≤ 256
      · exact RankTwice_main N a c ps a1 b1 c1 d1 xs ys w h hxs hys hN hps wx wy h1 h2 h3
      · have g1 : decide ((300 : Int) < ps.length) = false := by simp; omega
        have g2 : decide ((256 : Int) < xs.length) = false := by simp; omega
        have g3 : decide ((256 : Int) < ys.length) = true := by simp; omega
        go_enter Try.func4, Try.ntmps4
        go_wp2_with fail
        have kb : Kept [] w ((w.alloc (.cells #[.int .u8 N, .slice a ps.length c] 24)).alloc (.cells #[.slice a1 xs.length c1, .slice b1 ys.length d1] 50)) := ((Kept.refl _ _).alloc _).alloc _
        refine (rankEnds_ok _).mono ?_
        rintro e w7 ⟨rfl, hk7⟩
        have K7 := hid (kb.trans hk7)
        clear hk7 kb
        go_wp2_with fail
        go_ret
        exact ⟨rfl, K7.out⟩
    · have g1 : decide ((300 : Int) < ps.length) = false := by simp; omega
      have g2 : decide ((256 : Int) < xs.length) = true := by simp; omega
      go_enter Try.func4, Try.ntmps4
      go_wp2_with fail
      have kb : Kept [] w ((w.alloc (.cells #[.int .u8 N, .slice a ps.length c] 24)).alloc (.cells #[.slice a1 xs.length c1, .slice b1 ys.length d1] 50)) := ((Kept.refl _ _).alloc _).alloc _
      refine (rankEnds_ok _).mono ?_
      rintro e w7 ⟨rfl, hk7⟩
      have K7 := hid (kb.trans hk7)
      clear hk7 kb
      go_wp2_with fail
      go_ret
      exact ⟨rfl, K7.out⟩
  · have g1 : decide ((300 : Int) < ps.length) = true := by simp; omega
    go_enter Try.func4, Try.ntmps4
    go_wp2_with fail
    have kb : Kept [] w ((w.alloc (.cells #[.int .u8 N, .slice a ps.length c] 24)).alloc (.cells #[.slice a1 xs.length c1, .slice b1 ys.length d1] 50)) := ((Kept.refl _ _).alloc _).alloc _
    refine (rankEnds_ok _).mono ?_
    rintro e w7 ⟨rfl, hk7⟩
    have K7 := hid (kb.trans hk7)
    clear hk7 kb
    go_wp2_with fail
    go_ret
    exact ⟨rfl, K7.out⟩
end Go.Proofs.Ytedljgohmlilgaa
