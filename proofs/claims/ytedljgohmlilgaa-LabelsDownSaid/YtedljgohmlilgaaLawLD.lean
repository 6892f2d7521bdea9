/-
  The walk of carousellaw19.LabelsDown.
-/
import Derived.Test.YtedljgohmlilgaaLow
import Derived.Test.YtedljgohmlilgaaPlR
import Derived.Test.YtedljgohmlilgaaEndL
import Derived.Test.YtedljgohmlilgaaLabD
import Derived.Test.YtedljgohmlilgaaLabT
import Derived.Test.YtedljgohmlilgaaLabB
import Derived.Test.YtedljgohmlilgaaOpen2
namespace Go.Proofs.Ytedljgohmlilgaa
open Go.RowKit
set_option linter.unusedVariables false

def startL (xs : List Int) (i : Nat) : Int := if i < xs.length then nth xs i else i
theorem startL_in {xs : List Int} {i : Nat} (h : i < xs.length) : startL xs i = nth xs i := if_pos h
theorem startL_out {xs : List Int} {i : Nat} (h : ¬ i < xs.length) : startL xs i = i := if_neg h
theorem setTo_at {g : Nat → Int} {k : Nat} {zs : List Int} {x : Int} (h : g k = x) : (setTo g k zs).set k x = setTo g (k + 1) zs := by subst h; rfl
/-- The block of a slice is none of two. -/
def Off (v : Value) (a b : Nat) : Prop := ∀ j, v.ownBlock = some j → j ∉ [a, b]
theorem off_new {w w' : World} {pa ga pb gb : Nat} {xs ys : List Int} {v : Value} {zs : List Int} (h : Two w pa ga pb gb xs ys) (r : IsRow w' w.heap.size v zs) : Off v ga gb := by
  intro j hj
  have := (World.ownsRow.lt r j hj).1
  have := h.lt
  simp; omega
theorem Off.ga {v : Value} {a b : Nat} (h : Off v a b) : ∀ j, v.ownBlock = some j → j ∉ [a] := fun j hj => by have := h j hj; simp at this ⊢; exact this.1
theorem Off.gb {v : Value} {a b : Nat} (h : Off v a b) : ∀ j, v.ownBlock = some j → j ∉ [b] := fun j hj => by have := h j hj; simp at this ⊢; exact this.2
theorem row_get {w : World} {B : Nat} {v : Value} {xs : List Int} (h : IsRow w B v xs) (h0 : 0 < xs.length) : ∃ g c, v = .slice (some ⟨g, 0, none⟩) xs.length c ∧ xs.length ≤ c ∧ ∀ i, i < xs.length → w.cell? ⟨g, i, none⟩ = some (.int .u64 (nth xs i)) := by
  obtain ⟨a, c, rfl, hc, hn, hs⟩ := ownsRow_slice h
  cases a with
  | none => have := (hn rfl).1; omega
  | some ad =>
    obtain ⟨g, rfl, _, _, hcell⟩ := hs ad rfl
    exact ⟨g, c, rfl, hc, fun i hi => hcell _ _ (by simp [nth_some hi])⟩
/-- Is a number among the first so many? -/
def seen (xs : List Int) (y : Int) : Nat → Bool
  | 0 => false
  | j + 1 => seen xs y j || nth xs j == y
theorem seen_yes {xs : List Int} {y : Int} {j : Nat} (h : seen xs y j = true) : seen xs y (j + 1) = true := by simp [seen, h]
theorem seen_no {xs : List Int} {y : Int} {j : Nat} {b : Bool} (h : seen xs y j = false) (hb : (nth xs j == y) = b) : seen xs y (j + 1) = b := by simp [seen, h, hb]
theorem seen_of {xs : List Int} {y : Int} {n u : Nat} (hu : u < n) (h : y = nth xs u) : seen xs y n = true := by
  induction n with
  | zero => omega
  | succ n ih =>
    by_cases e : u = n
    · subst e; simp [seen, h]
    · exact seen_yes (ih (by omega))

set_option maxRecDepth 100000 in
set_option maxHeartbeats 8000000 in
theorem LabelsDown_main (N many : Nat) (a : Option Addr) (c : Nat) (ps : List (Nat × Nat)) (a2 : Option Addr) (c2 : Nat) (zs : List Int) (w : World) (h : IsPairs w a ps) (hzs : IsWords w a2 zs) (hN : N < 256) (hm : many < 256)
    (hps : ∀ i, i < ps.length → (edge ps i).1 < 256 ∧ (edge ps i).2 < 256) (wz : Words zs) (h1 : ps.length ≤ 300) (h2 : zs.length ≤ 256) :
    Calls Try.prog 5 #[.agg #[.int .u8 N, .slice a ps.length c], .int .u8 many, .slice a2 zs.length c2] w fun e w' => e = .returned (.bool true) ∧ Kept [] w w' := by
  have d1' : decide ((300 : Int) < ps.length) = false := by simp; omega
  have d2' : decide ((256 : Int) < zs.length) = false := by simp; omega
  have HG := hid (graphy N ps h1)
  have HPS := hid hps; clear hps
  clear wz
  go_enter Try.func5, Try.ntmps5
  go_wp2_with fail
  have kb : Kept [] w (w.alloc (.cells #[.int .u8 N, .slice a ps.length c] 24)) := (Kept.refl _ _).alloc _
  refine (Made_ok N a c ps _ (h.ext kb) hN HPS.out h1).mono ?_
  obtain ⟨n, hn⟩ : ∃ n, n = 1 + N % 60 := ⟨_, rfl⟩
  obtain ⟨es, hes⟩ : ∃ es, es = normE (told n ps) := ⟨_, rfl⟩
  rw [← hn] at HG ⊢
  rw [← hes] at HG ⊢
  rintro e w1 ⟨v1, rfl, hk1, he1⟩
  have K1 := hid (kb.trans hk1)
  obtain ⟨ea, ec, rfl, hec, hen, hesm⟩ := he1.slice
  have E1 := hid he1
  have ES := hid hesm
  have KB := hid hk1
  have EN := hid hen
  clear hesm hen
  clear hk1 he1 hn hes kb
  have n1 := HG.out.n1
  have n60 := HG.out.n60
  have el := HG.out.len
  go_wp2_with fail
  refine (Shards_ok _ (.slice ea es.length ec) es n many _ E1.out n1 (by omega) hm (lead_rising HG.out.rise) (by have := HG.out.len; omega)).mono ?_
  rintro e w2 ⟨v2, rfl, hk2, hs2⟩
  have K2 := hid (K1.out.trans hk2)
  have E1K := hid hk2
  have E2 := hid (E1.out.ext hk2)
  obtain ⟨s, hs⟩ : ∃ s, s = parts n many := ⟨_, rfl⟩
  have s1 := parts_pos n many
  have s2 := parts_le many n1
  have s3 := parts_16 many n1
  rw [← hs] at hs2 s1 s2 s3
  obtain ⟨sa, sc, rfl, hsc⟩ := hs2.slice
  rw [cuts_length] at hsc hs2 ⊢
  have S2 := hid hs2
  clear hk2 hs2 hs
  go_wp2_with fail
  refine (Fresh_ok n w2 (by omega)).mono ?_
  rintro e w3 ⟨rfl, hk3, ht3, hz3⟩
  obtain ⟨ga, hga⟩ : ∃ ga, ga = w2.heap.size := ⟨_, rfl⟩
  obtain ⟨pa, hpa⟩ : ∃ pa, pa = w2.heap.size + 1 := ⟨_, rfl⟩
  obtain ⟨pb, hpb⟩ : ∃ pb, pb = w2.heap.size + 3 := ⟨_, rfl⟩
  obtain ⟨gb, hgb⟩ : ∃ gb, gb = w2.heap.size + 2 := ⟨_, rfl⟩
  rw [← hpa, ← hpb, ← hgb, ← hga] at ht3
  rw [← hpa, ← hpb]
  have G := hid (show w2.heap.size ≤ ga ∧ w2.heap.size ≤ gb ∧ w2.heap.size ≤ pa ∧ w2.heap.size ≤ pb ∧ ga < w3.heap.size ∧ gb < w3.heap.size ∧ pa < w3.heap.size ∧ pb < w3.heap.size by omega)
  have K3 := hid hk3
  have T3 := hid ht3
  clear hk3 ht3 hz3 hga hpa hpb hgb
  have z1 : (zeros n).length = n := by simp [zeros]
  go_wp2_with fail
  go_loopw [12, 13] (fun i _ wr => ∃ k : Nat, k ≤ n ∧ i = .int .i64 k ∧ Kept [] w2 wr ∧ Two wr pa ga pb gb (setTo (startL zs) k (zeros n)) (setTo (startL zs) k (zeros n))) (fun i _ _ => n - (intOf i).toNat)
  case atStart => exact ⟨0, Nat.zero_le _, rfl, K3.out, T3.out⟩
  case round =>
    obtain ⟨k, hk, rfl, hK, hT⟩ := hrel
    have K := hid hK
    have T := hid hT
    clear hK hT
    have l1 := hid (show (setTo (startL zs) k (zeros n)).length = n by rw [setTo_length, z1])
    by_cases hlt : k < n
    · by_cases hxl : k < zs.length
      · have d3 : decide (k < zs.length) = true := by simpa using hxl
        obtain ⟨xb, xo, rfl, x0⟩ := (hzs.cells k hxl)
        replace x0 := (K2.out.trans K.out).cell_some x0 (by simp)
        obtain ⟨x, hx⟩ : ∃ x, nth zs k = x := ⟨_, rfl⟩
        rw [hx] at x0
        have XS := hid ((startL_in hxl).trans hx)
        clear hx
        go_wp2_with fail
        refine (Set_ok pa ga _ k _ _ T.out.cur (by rw [l1.out]; exact hlt) (by rw [l1.out]; omega)).mono ?_
        rintro e w5 ⟨rfl, hk5, hv5⟩
        have T5 := hid (T.out.setCur hk5 hv5)
        have K5 := hid ((K.out.of_nil.trans hk5).to_nil (by simp; exact G.out.1))
        clear hk5 hv5
        go_wp2_with fail
        refine (Set_ok pb gb _ k _ _ T5.out.acc (by rw [l1.out]; exact hlt) (by rw [l1.out]; omega)).mono ?_
        rintro e w6 ⟨rfl, hk6, hv6⟩
        have T6 := hid (T5.out.setAcc hk6 hv6)
        have K6 := hid ((K5.out.of_nil.trans hk6).to_nil (by simp; exact G.out.2.1))
        clear hk6 hv6
        rw [setTo_at XS.out] at T6
        go_wp2
        exact ⟨⟨k + 1, by omega, by go_num, K6.out, T6.out⟩, by simp [intOf]; omega⟩
      · have d3 : decide (k < zs.length) = false := by simpa using hxl
        have XS := hid (startL_out hxl)
        go_wp2_with fail
        refine (Set_ok pa ga _ k _ _ T.out.cur (by rw [l1.out]; exact hlt) (by rw [l1.out]; omega)).mono ?_
        rintro e w5 ⟨rfl, hk5, hv5⟩
        have T5 := hid (T.out.setCur hk5 hv5)
        have K5 := hid ((K.out.of_nil.trans hk5).to_nil (by simp; exact G.out.1))
        clear hk5 hv5
        go_wp2_with fail
        refine (Set_ok pb gb _ k _ _ T5.out.acc (by rw [l1.out]; exact hlt) (by rw [l1.out]; omega)).mono ?_
        rintro e w6 ⟨rfl, hk6, hv6⟩
        have T6 := hid (T5.out.setAcc hk6 hv6)
        have K6 := hid ((K5.out.of_nil.trans hk6).to_nil (by simp; exact G.out.2.1))
        clear hk6 hv6
        rw [setTo_at XS.out] at T6
        go_wp2
        exact ⟨⟨k + 1, by omega, by go_num, K6.out, T6.out⟩, by simp [intOf]; omega⟩
    · obtain rfl : n = k := by omega
      obtain ⟨X, hX⟩ : ∃ X, X = setTo (startL zs) n (zeros n) := ⟨_, rfl⟩
      rw [← hX] at T l1
      clear hX
      go_wp2_with fail
      refine (Read_ok pa ga X _ T.out.cur (by rw [l1.out]; omega)).mono ?_
      rintro e w5 ⟨v5, rfl, hk5, hr5⟩
      have K5 := hid (K.out.trans hk5)
      have O5 := hid (off_new T.out hr5)
      have R5 := hid (ownsRow_base hr5 (Nat.zero_le _))
      have T5 := hid (T.out.ext hk5)
      clear hk5 hr5
      go_wp2_with fail
      go_loopw [14, 15] (fun v i wr => ∃ r : Nat, ∃ X : List Int, r ≤ 3 ∧ X.length = n ∧ i = .int .i64 r ∧ Kept [] w2 wr ∧ Two wr pa ga pb gb X X ∧ IsRow wr 0 v X ∧ Off v ga gb) (fun _ i _ => 3 - (intOf i).toNat)
      case atStart => exact ⟨0, X, by omega, l1.out, rfl, K5.out, T5.out, R5.out, O5.out⟩
      case round =>
        clear R5 O5 T5 K5 T K l1
        obtain ⟨r, X, hr, hXl, rfl, hK, hT, hR, hO⟩ := hrel
        have K := hid hK
        have T := hid hT
        have R := hid hR
        have O := hid hO
        have xl := hid hXl
        clear hK hT hR hO hXl
        by_cases hrl : r < 3
        · have d3 : decide ((r : Int) < 3) = true := by simp; omega
          go_wp2_with fail
          obtain ⟨va, vc, rfl, hvc, _⟩ := ownsRow_slice R.out
          go_loopw [16] (fun i wq => ∃ j : Nat, j ≤ s ∧ i = .int .i64 j ∧ Kept [] w2 wq ∧ Two wq pa ga pb gb X (labelsShard X X (((cuts n s).take j).flatMap (shardEdges es))) ∧ IsRow wq 0 (.slice va X.length vc) X) (fun i _ => s - (intOf i).toNat)
          case atStart => exact ⟨0, Nat.zero_le _, rfl, K.out, T.out, R.out⟩
          case round =>
            obtain ⟨j, hj, rfl, hK, hT, hR⟩ := hrel
            have K := hid hK
            have T := hid hT
            have R := hid hR
            clear hK hT hR
            have yl := hid (show (labelsShard X X (((cuts n s).take j).flatMap (shardEdges es))).length = n by rw [labelsShard_length, xl.out])
            by_cases hjl : j < s
            · obtain ⟨sg, fr, m, bo, rfl, hcut, hmn, hsh⟩ := S2.out.shard s1 s2 hjl K.out [ga, gb] (by simp; exact ⟨G.out.1, G.out.2.1⟩)
              have C := hid (show labelsShard X X (((cuts n s).take (j + 1)).flatMap (shardEdges es)) = labelsShard X (labelsShard X X (((cuts n s).take j).flatMap (shardEdges es))) (edgesOf fr (rowsOf es fr m)) by
                rw [shards_next es hjl, shardEdges_at hcut]; unfold labelsShard; rw [List.foldl_append])
              have q0 := hsh.c0
              have q1 := hsh.c1
              have q2 := hsh.c2
              have SH := hid hsh
              have rl := hid (rowsOf_length es fr m)
              clear hcut hsh
              have hcs := labelsShard_ok [ga, gb] pa pb ga gb _ _ fr ((fr + m : Nat) : Int) (some ⟨bo, 0, none⟩) m (rowsOf es fr m) r wr T.out (by rw [xl.out, yl.out]) (by rw [xl.out]; omega) (by rw [xl.out]; omega) SH.out.out (by simp) (by rw [xl.out]; omega) (by rw [rl.out]; omega) (by rw [rl.out]; omega) (by rw [xl.out]; exact HG.out.within fr m) (HG.out.short fr m)
              rw [rl.out] at hcs
              have HC := hid hcs
              clear hcs
              go_wp2_with fail
              refine HC.out.mono ?_
              rintro e w5 ⟨rfl, hk5, ht5⟩
              have K5 := hid ((K.out.of_nil.trans hk5).to_nil (by simp; exact G.out.2.1))
              have T5 := hid ht5
              have R5 := hid (ownsRow_kept R.out hk5 O.out.gb)
              clear hk5 ht5
              go_wp2
              exact ⟨⟨j + 1, by omega, by go_num, K5.out, by rw [C.out]; exact T5.out, R5.out⟩, by simp [intOf]; omega⟩
            · have CT := hid (show ((cuts n s).take j).flatMap (shardEdges es) = tri es n by
                rw [List.take_of_length_le (by rw [cuts_length]; omega), shards_all es s1])
              rw [CT.out] at T yl
              have down := hid (fun (v : Nat) (hv : v < n) => labels_down (T := tri es n) xl.out (fun e he => ⟨(mem_tri.1 he).1, HG.out.lt2 _ (mem_tri.1 he).2.1⟩) hv)
              obtain ⟨Y, hY⟩ : ∃ Y, Y = labelsShard X X (tri es n) := ⟨_, rfl⟩
              rw [← hY] at T yl down
              clear hY CT
              have TK := hid (labels_taken xl.out yl.out (fun i hi => (down.out i hi).1))
              have DN := hid (labels_done xl.out yl.out (fun i hi => (down.out i hi).1))
              go_wp2_with fail
              refine (labelsCommit_ok pa pb ga gb X Y 0 r _ T.out (by rw [xl.out, yl.out]) (by rw [xl.out]; omega) (by rw [xl.out]; omega)).mono ?_
              rintro e w5 ⟨rfl, hk5, ht5⟩
              rw [xl.out, TK.out] at ht5
              rw [DN.out]
              have K5 := hid ((K.out.of_nil.trans hk5).to_nil (by simp; exact G.out.1))
              have T5 := hid ht5
              have R5 := hid (ownsRow_kept R.out hk5 O.out.ga)
              clear hk5 ht5
              go_wp2_with fail
              refine (Read_ok pa ga Y _ T5.out.cur (by rw [yl.out]; omega)).mono ?_
              rintro e w6 ⟨v6, rfl, hk6, hr6⟩
              have K6 := hid (K5.out.trans hk6)
              have O6 := hid (off_new T5.out hr6)
              have V6 := hid (ownsRow_base hr6 (Nat.zero_le _))
              have T6 := hid (T5.out.ext hk6)
              have R6 := hid (ownsRow_kept R5.out hk6 (by simp))
              clear hk6 hr6
              obtain ⟨gy, cy, rfl, hcy, _⟩ := row_get V6.out (by rw [yl.out]; omega)
              have le : ((Y.length : Int) != n) = false := by rw [yl.out]; simp
              obtain ⟨b, hb⟩ : ∃ b, decide (Y = X) = b := ⟨_, rfl⟩
              have bb : (b != b) = false := by simp
              have HB := hid hb
              rw [hb]
              clear hb
              go_wp2_with fail
              refine (Numbers_ok 0 0 _ _ Y X _ V6.out R6.out (by rw [yl.out]; omega) (by rw [xl.out]; omega)).mono ?_
              rintro e w7 ⟨rfl, hk7⟩
              rw [HB.out]
              have K7 := hid (K6.out.trans hk7)
              have T7 := hid (T6.out.ext hk7)
              have V7 := hid (ownsRow_kept V6.out hk7 (by simp))
              have R7 := hid (ownsRow_kept R6.out hk7 (by simp))
              clear hk7
              obtain ⟨gy2, cy2, ev, hcy2, CY⟩ := row_get V7.out (by rw [yl.out]; omega)
              simp only [Value.slice.injEq, Option.some.injEq, Addr.mk.injEq] at ev
              obtain ⟨⟨rfl, _⟩, _, rfl⟩ := ev
              obtain ⟨gx, cx, ev, hcx, CX⟩ := row_get R7.out (by rw [xl.out]; omega)
              simp only [Value.slice.injEq] at ev
              obtain ⟨rfl, _, rfl⟩ := ev
              have CYH := hid CY
              have CXH := hid CX
              clear CY CX
              go_wp2_with fail
              go_loopw [20] (fun i wq => ∃ k : Nat, k ≤ n ∧ i = .int .i64 k ∧ Kept [] w7 wq) (fun i _ => n - (intOf i).toNat)
              case atStart => exact ⟨0, Nat.zero_le _, rfl, Kept.refl _ _⟩
              case round =>
                obtain ⟨k, hk, rfl, hK⟩ := hrel
                have KQ := hid hK
                clear hK
                by_cases hkl : k < n
                · have d4 : decide ((k : Int) < n) = true := by simpa using hkl
                  have ky : k < Y.length := by rw [yl.out]; exact hkl
                  have kx : k < X.length := by rw [xl.out]; exact hkl
                  obtain ⟨y, hy⟩ : ∃ y, nth Y k = y := ⟨_, rfl⟩
                  have HYk := hid hy
                  clear hy
                  go_wp2_with fail
                  go_loopw [21, 22] (fun bv i wq => ∃ j : Nat, j ≤ n ∧ i = .int .i64 j ∧ bv = .bool (seen X y j) ∧ Kept [] w7 wq) (fun _ i _ => n - (intOf i).toNat)
                  case atStart => exact ⟨0, Nat.zero_le _, rfl, rfl, KQ.out⟩
                  case round =>
                    obtain ⟨j, hj, rfl, rfl, hK⟩ := hrel
                    have y0 := hK.cell_some (CYH.out k (by rw [yl.out]; exact hkl)) (by simp)
                    rw [HYk.out] at y0
                    have KQ := hid hK
                    by_cases hjl : j < n
                    · have d5 : decide ((j : Int) < n) = true := by simpa using hjl
                      have x0 := hK.cell_some (CXH.out j (by rw [xl.out]; exact hjl)) (by simp)
                      obtain ⟨x, hx⟩ : ∃ x, nth X j = x := ⟨_, rfl⟩
                      rw [hx] at x0
                      have HXj := hid hx
                      have jx : j < X.length := by rw [xl.out]; exact hjl
                      clear hx hK
                      cases hs : seen X y j with
                      | true =>
                        have SN := hid (seen_yes hs)
                        clear hs
                        go_wp2_with fail
                        go_quiet (fail)
                        have KQ2 := hid (KQ.out.drewN nq)
                        go_wp2
                        exact ⟨⟨j + 1, by omega, by go_num, by rw [SN.out], KQ2.out⟩, by simp [intOf]; omega⟩
                      | false =>
                        have HS := hid hs
                        clear hs
                        by_cases he : x = y
                        · have d6 : (x == y) = true := by simp [he]
                          have SN := hid (seen_no (b := true) HS.out (by rw [HXj.out]; exact d6))
                          clear he
                          go_wp2_with fail
                          go_quiet (fail)
                          have KQ2 := hid (KQ.out.drewN nq)
                          go_wp2
                          exact ⟨⟨j + 1, by omega, by go_num, by rw [SN.out], KQ2.out⟩, by simp [intOf]; omega⟩
                        · have d6 : (x == y) = false := by simp [he]
                          have SN := hid (seen_no (b := false) HS.out (by rw [HXj.out]; exact d6))
                          clear he
                          go_wp2_with fail
                          go_quiet (fail)
                          have KQ2 := hid (KQ.out.drewN nq)
                          go_wp2
                          exact ⟨⟨j + 1, by omega, by go_num, by rw [SN.out], KQ2.out⟩, by simp [intOf]; omega⟩
                    · have d5 : decide ((j : Int) < n) = false := by simpa using hjl
                      obtain ⟨dn1, u, hu, dn2⟩ := down.out k hkl
                      rw [HYk.out] at dn1 dn2
                      have x0 := hK.cell_some (CXH.out k (by rw [xl.out]; exact hkl)) (by simp)
                      obtain ⟨x, hx⟩ : ∃ x, nth X k = x := ⟨_, rfl⟩
                      rw [hx] at x0 dn1
                      have SN := hid (show seen X y j = true by rw [show j = n by omega]; exact seen_of hu dn2)
                      have d6 : decide (x < y) = false := by simpa using dn1
                      rw [SN.out]
                      clear hx dn1 dn2 hK hu
                      go_wp2_with fail
                      go_quiet (fail)
                      have KQ2 := hid (KQ.out.drewN nq)
                      go_wp2
                      exact ⟨⟨k + 1, by omega, by go_num, KQ2.out⟩, by simp [intOf]; omega⟩
                · have d4 : decide ((k : Int) < n) = false := by simpa using hkl
                  have K8 := hid (K7.out.trans KQ.out)
                  have T8 := hid (T7.out.ext KQ.out)
                  have V8 := hid (ownsRow_kept V7.out KQ.out (by simp))
                  go_wp2
                  exact ⟨⟨r + 1, Y, by omega, yl.out, by go_num, K8.out, T8.out, V8.out, O6.out⟩, by simp [intOf]; omega⟩
        · have d3 : decide ((r : Int) < 3) = false := by simp; omega
          have ds : decide ((0 : Int) < s) = true := by simp; omega
          have ds2 : decide (0 < s) = true := by simp; omega
          go_wp2_with fail
          refine (labelsEnds_ok _).mono ?_
          rintro e w7 ⟨rfl, hk7⟩
          have K7 := hid ((K2.out.trans K.out).trans hk7)
          clear hk7
          go_wp2_with fail
          go_ret
          exact ⟨rfl, K7.out⟩

set_option maxRecDepth 100000 in
set_option maxHeartbeats 2000000 in
theorem LabelsDown_ok (N many : Nat) (a : Option Addr) (c : Nat) (ps : List (Nat × Nat)) (a2 : Option Addr) (c2 : Nat) (zs : List Int) (w : World) (h : IsPairs w a ps) (hzs : IsWords w a2 zs) (hN : N < 256) (hm : many < 256)
    (hps : ∀ i, i < ps.length → (edge ps i).1 < 256 ∧ (edge ps i).2 < 256) (wz : Words zs) :
    Calls Try.prog 5 #[.agg #[.int .u8 N, .slice a ps.length c], .int .u8 many, .slice a2 zs.length c2] w fun e w' => e = .returned (.bool true) ∧ Kept [] w w' := by
  by_cases h1 : ps.length ≤ 300
  · by_cases h2 : zs.length ≤ 256
    · exact LabelsDown_main N many a c ps a2 c2 zs w h hzs hN hm hps wz h1 h2
    · have g1 : decide ((300 : Int) < ps.length) = false := by simp; omega
      have g2 : decide ((256 : Int) < zs.length) = true := by simp; omega
      go_enter Try.func5, Try.ntmps5
      go_wp2_with fail
      have kb : Kept [] w (w.alloc (.cells #[.int .u8 N, .slice a ps.length c] 24)) := (Kept.refl _ _).alloc _
      refine (labelsEnds_ok _).mono ?_
      rintro e w7 ⟨rfl, hk7⟩
      have K7 := hid (kb.trans hk7)
      clear hk7 kb
      go_wp2_with fail
      go_ret
      exact ⟨rfl, K7.out⟩
  · have g1 : decide ((300 : Int) < ps.length) = true := by simp; omega
    go_enter Try.func5, Try.ntmps5
    go_wp2_with fail
    have kb : Kept [] w (w.alloc (.cells #[.int .u8 N, .slice a ps.length c] 24)) := (Kept.refl _ _).alloc _
    refine (labelsEnds_ok _).mono ?_
    rintro e w7 ⟨rfl, hk7⟩
    have K7 := hid (kb.trans hk7)
    clear hk7 kb
    go_wp2_with fail
    go_ret
    exact ⟨rfl, K7.out⟩
end Go.Proofs.Ytedljgohmlilgaa
