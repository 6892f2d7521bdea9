/-
  The walk of carousellaw21.KernelsParts.
-/
import Derived.Test.YtedljgohmlilgaaKerE
import Derived.Test.YtedljgohmlilgaaGKerT
import Derived.Test.YtedljgohmlilgaaGNorm
namespace Go.Proofs.Ytedljgohmlilgaa
open Go.RowKit
set_option linter.unusedVariables false

/-- The shards of a graph, as a list. -/
def shList (es : List (Nat × Nat)) (n s : Nat) : List (Nat × List (List Nat)) := (cuts n s).map fun c => (c.1, rowsOf es c.1 (c.2 - c.1))
theorem shList_length (es : List (Nat × Nat)) (n s : Nat) : (shList es n s).length = s := by rw [shList, List.length_map, cuts_length]
theorem shList_edges (es : List (Nat × Nat)) {n s : Nat} (h : 1 ≤ s) : allEdges (shList es n s) = tri es n := by
  rw [← shards_all es h]
  unfold allEdges shList
  rw [List.flatMap_map]; rfl
theorem shList_at (es : List (Nat × Nat)) {n s i : Nat} (h : i < s) : shd (shList es n s) i = ((cutAt n s i).1, rowsOf es (cutAt n s i).1 ((cutAt n s i).2 - (cutAt n s i).1)) := by
  rw [shd_eq (by rw [shList_length]; exact h)]
  simp only [shList, List.getElem_map]
  rw [← edge_eq (by rw [cuts_length]; exact h), edge_cuts h]
theorem shList_of {w : World} {B : Nat} {a : Option Addr} {n s c : Nat} {es : List (Nat × Nat)} (G : Graphy n es) (h : IsShards w B (.slice a s c) es (cuts n s)) (h1 : 1 ≤ s) (h2 : s ≤ n) : ShardList w n a (shList es n s) := by
  refine ⟨fun i hi => ?_, fun i hi => ?_⟩
  · rw [shList_length] at hi
    obtain ⟨g, fr, m, bo, ha, hcut, hmn, hsh⟩ := h.shard h1 h2 hi (Kept.refl [] w) [] (by simp)
    rw [shList_at es hi, hcut]
    simp only [Nat.add_sub_cancel_left]
    refine ⟨g, 0, some ⟨bo, 0, none⟩, m, ha, by rw [Nat.zero_add]; exact hsh.c0, ?_, ?_, hsh.out⟩
    · rw [Nat.zero_add, rowsOf_length]; exact hsh.c1
    · rw [Nat.zero_add, rowsOf_length]; exact hsh.c2
  · rw [shList_length] at hi
    obtain ⟨g, fr, m, bo, ha, hcut, hmn, hsh⟩ := h.shard h1 h2 hi (Kept.refl [] w) [] (by simp)
    rw [shList_at es hi, hcut]
    simp only [Nat.add_sub_cancel_left]
    exact ⟨by rw [rowsOf_length]; exact hmn, G.within fr m, G.short fr m⟩
theorem all_six {a b c d e f : Prop} (h : a ∧ b ∧ c ∧ d) (k : e ∧ f) : a ∧ b ∧ c ∧ d ∧ e ∧ f := ⟨h.1, h.2.1, h.2.2.1, h.2.2.2, k.1, k.2⟩
set_option linter.unusedSimpArgs false
set_option maxRecDepth 100000 in
set_option maxHeartbeats 16000000 in
theorem KernelsParts_main (N : Nat) (a : Option Addr) (c : Nat) (ps : List (Nat × Nat)) (K A P D x y : Nat) (w : World) (h : IsPairs w a ps) (hN : N < 256)
    (hps : ∀ i, i < ps.length → (edge ps i).1 < 256 ∧ (edge ps i).2 < 256) (hK : K < 256) (hA : A < 256) (hP : P < 256) (hD : D < 65536) (hx : x < 256) (hy : y < 256) (h1 : ps.length ≤ 300) :
    Calls Try.prog 11 #[.agg #[.int .u8 N, .slice a ps.length c], .agg #[.int .u8 K, .int .u8 A, .int .u8 P, .int .u16 D], .agg #[.int .u8 x, .int .u8 y]] w fun e w' => e = .returned (.bool true) ∧ Kept [] w w' := by
  have d1' : decide ((300 : Int) < ps.length) = false := by simp; omega
  have HG := hid (graphy N ps h1)
  have HPS := hid hps; clear hps
  have lc := hid (fun (w' : World) (k : Kept [] (((w.alloc (.cells #[.int .u8 N, .slice a ps.length c] 24)).alloc (.cells #[.int .u8 K, .int .u8 A, .int .u8 P, .int .u16 D] 85)).alloc (.cells #[.int .u8 x, .int .u8 y] 58)) w') => (show (w'.cell? ⟨w.heap.size + 1, 0, none⟩ = some (.int .u8 K) ∧ w'.cell? ⟨w.heap.size + 1, 1, none⟩ = some (.int .u8 A) ∧ w'.cell? ⟨w.heap.size + 1, 2, none⟩ = some (.int .u8 P) ∧ w'.cell? ⟨w.heap.size + 1, 3, none⟩ = some (.int .u16 D)) ∧ w'.cell? ⟨w.heap.size + 1 + 1, 0, none⟩ = some (.int .u8 x) ∧ w'.cell? ⟨w.heap.size + 1 + 1, 1, none⟩ = some (.int .u8 y) from by
    have ho : (((w.alloc (.cells #[.int .u8 N, .slice a ps.length c] 24)).alloc (.cells #[.int .u8 K, .int .u8 A, .int .u8 P, .int .u16 D] 85)).alloc (.cells #[.int .u8 x, .int .u8 y] 58)).heap[w.heap.size + 1]? = some (.cells #[.int .u8 K, .int .u8 A, .int .u8 P, .int .u16 D] 85 (0, 0)) := obj_alloc_old (new_obj (by simp)) _
    have ho2 := k.obj ho (by simp)
    have hq : (((w.alloc (.cells #[.int .u8 N, .slice a ps.length c] 24)).alloc (.cells #[.int .u8 K, .int .u8 A, .int .u8 P, .int .u16 D] 85)).alloc (.cells #[.int .u8 x, .int .u8 y] 58)).heap[w.heap.size + 1 + 1]? = some (.cells #[.int .u8 x, .int .u8 y] 58 (0, 0)) := new_obj (by simp)
    have hq2 := k.obj hq (by simp)
    exact ⟨⟨by rw [cell_of_obj ho2]; rfl, by rw [cell_of_obj ho2]; rfl, by rw [cell_of_obj ho2]; rfl, by rw [cell_of_obj ho2]; rfl⟩, by rw [cell_of_obj hq2]; rfl, by rw [cell_of_obj hq2]; rfl⟩))
  go_enter Try.func11, Try.ntmps11
  go_wp2_with fail
  have kb : Kept [] w (((w.alloc (.cells #[.int .u8 N, .slice a ps.length c] 24)).alloc (.cells #[.int .u8 K, .int .u8 A, .int .u8 P, .int .u16 D] 85)).alloc (.cells #[.int .u8 x, .int .u8 y] 58)) := (((Kept.refl _ _).alloc _).alloc _).alloc _
  refine (Made_ok N a c ps _ (h.ext kb) hN HPS.out h1).mono ?_
  obtain ⟨n, hn⟩ : ∃ n, n = 1 + N % 60 := ⟨_, rfl⟩
  obtain ⟨es, hes⟩ : ∃ es, es = normE (told n ps) := ⟨_, rfl⟩
  rw [← hn] at HG ⊢
  rw [← hes] at HG ⊢
  rintro e w1 ⟨v1, rfl, hk1, he1⟩
  have K1 := hid (kb.trans hk1)
  obtain ⟨ea, ec, rfl, hec, hen, hesm⟩ := he1.slice
  have E1 := hid he1
  have ES := hid hesm
  have KB := hid hk1
  have EN := hid hen
  clear hesm hen
  clear hk1 he1 hn hes kb
  have n1 := HG.out.n1
  have n60 := HG.out.n60
  have el := HG.out.len
  obtain ⟨pbk, hpbk⟩ : ∃ b, b = w.heap.size + 1 + 1 := ⟨_, rfl⟩
  obtain ⟨abk, habk⟩ : ∃ b, b = w.heap.size + 1 := ⟨_, rfl⟩
  rw [← hpbk, ← habk] at lc ⊢
  have LA := hid (fun (w' : World) (k : Kept [] w1 w') => (lc.out w' (KB.out.trans k)).1)
  have LP := hid (fun (w' : World) (k : Kept [] w1 w') => (lc.out w' (KB.out.trans k)).2)
  clear hpbk habk lc
  obtain ⟨a0, a1, a2, a3⟩ := LA.out _ (Kept.refl _ _)
  go_wp2_with fail
  refine (AskMade_ok K A P D n _ n1 (by omega) hK hA hP hD).mono ?_
  rintro e w2 ⟨rfl, hk2⟩
  obtain ⟨kd, hkd⟩ : ∃ kd, kd = askKind K := ⟨_, rfl⟩
  obtain ⟨ar, har⟩ : ∃ ar, ar = askArg K A n := ⟨_, rfl⟩
  obtain ⟨pr, hpr⟩ : ∃ pr, pr = P % 8 := ⟨_, rfl⟩
  obtain ⟨nd, hnd⟩ : ∃ nd, nd = 256 + D % 1000 := ⟨_, rfl⟩
  have OK := hid (show okReq kd ar n by rw [hkd, har]; exact ask_ok K A n1)
  have pr7 : pr ≤ 7 := by omega
  rw [← hkd, ← har, ← hpr, ← hnd]
  clear hkd har hpr hnd a0 a1 a2 a3
  have K2 := hid hk2
  clear hk2
  obtain ⟨rb, hrb⟩ : ∃ rb, rb = w2.heap.size := ⟨_, rfl⟩
  have o3 := hid (new_obj hrb : (w2.alloc (.cells #[.int .i64 kd, .int .i64 ar, .int .i64 pr, .int .i64 nd] 76)).heap[rb]? = some (.cells #[.int .i64 kd, .int .i64 ar, .int .i64 pr, .int .i64 nd] 76 (0, 0)))
  have k3 := hid ((Kept.refl [] w2).alloc (.cells #[.int .i64 kd, .int .i64 ar, .int .i64 pr, .int .i64 nd] 76))
  go_upto_region 5 with (fail)
  rw [← hrb]
  clear hrb
  obtain ⟨w3, hw3⟩ : ∃ w3, w3 = w2.alloc (.cells #[.int .i64 kd, .int .i64 ar, .int .i64 pr, .int .i64 nd] 76) := ⟨_, rfl⟩
  rw [← hw3] at o3 k3 ⊢
  clear hw3
  have K3 := hid (K2.out.trans k3.out)
  have LR := hid (fun (w' : World) (k : Kept [] w3 w') => (show w'.cell? ⟨rb, 0, none⟩ = some (.int .i64 kd) ∧ w'.cell? ⟨rb, 1, none⟩ = some (.int .i64 ar) ∧ w'.cell? ⟨rb, 2, none⟩ = some (.int .i64 pr) ∧ w'.cell? ⟨rb, 3, none⟩ = some (.int .i64 nd) from by
    have ho := k.obj o3.out (by simp)
    exact ⟨by rw [cell_of_obj ho]; rfl, by rw [cell_of_obj ho]; rfl, by rw [cell_of_obj ho]; rfl, by rw [cell_of_obj ho]; rfl⟩))
  replace LP := hid (fun (w' : World) (k : Kept [] w3 w') => LP.out w' (K3.out.trans k))
  have EX := hid (fun (w' : World) (k : Kept [] w3 w') => E1.out.ext (K3.out.trans k))
  have KW := hid (K1.out.trans K3.out)
  obtain ⟨R, hR⟩ : ∃ R, runFrom kd ar n (tri es n) (bound kd ar n) 0 = R := ⟨_, rfl⟩
  have RR := hid hR
  have RL := hid (show R.1.length = n by rw [← hR]; exact runFrom_length _ _ _ _ _ _)
  clear hR LA
  obtain ⟨r0, r1, r2, r3⟩ := LR.out _ (Kept.refl [] w3)
  obtain ⟨p0, p1⟩ := LP.out _ (Kept.refl [] w3)
  obtain ⟨s1, hs1⟩ : ∃ s, s = parts n x := ⟨_, rfl⟩
  have t11 := parts_pos n x
  have t21 := parts_le x n1
  have t31 := parts_16 x n1
  rw [← hs1] at t11 t21 t31
  have HS1 := hid hs1
  clear hs1
  go_wp2_with fail
  go_region_held3 (fun w' => w'.cell? ⟨rb, 0, none⟩ = some (.int .i64 kd) ∧ w'.cell? ⟨rb, 1, none⟩ = some (.int .i64 ar) ∧ w'.cell? ⟨rb, 2, none⟩ = some (.int .i64 pr) ∧ w'.cell? ⟨rb, 3, none⟩ = some (.int .i64 nd) ∧ w'.cell? ⟨pbk, 0, none⟩ = some (.int .u8 x) ∧ w'.cell? ⟨pbk, 1, none⟩ = some (.int .u8 y))
    (first
      | exact ⟨r0, r1, r2, r3, p0, p1⟩
      | exact all_six (LR.out _ ((Kept.refl [] w3).drew.trans (hk1.trans hr1))) (LP.out _ ((Kept.refl [] w3).drew.trans (hk1.trans hr1)))
      | exact all_six (LR.out _ ((Kept.refl [] w3).drew.trans hk1)) (LP.out _ ((Kept.refl [] w3).drew.trans hk1)))
    (first
      | (go_at_call 18; refine (Shards_ok _ (.slice ea es.length ec) es n x _ ((EX.out _ (Kept.refl [] w3)).ext ((Kept.refl [] w3).drew)) n1 (by omega) (by assumption) (lead_rising HG.out.rise) (by have := HG.out.len; omega)).mono ?_; rintro e w4 ⟨u1, rfl, hk1, hsh1⟩; rw [← HS1.out] at hsh1; obtain ⟨sa1, sc1, rfl, hsc1⟩ := hsh1.slice; rw [cuts_length] at hsh1 hsc1 ⊢; have hrun1 := Run_ok kd ar pr nd n sa1 (shList es n s1) sc1 w4 OK.out pr7 n1 (by omega) (shList_of HG.out hsh1 t11 t21) (by rw [shList_length]; omega); rw [shList_length, shList_edges es t11, RR.out] at hrun1)
      | (go_at_call 46; refine hrun1.mono ?_; rintro e w5 ⟨va, rfl, hr1, hv1⟩))
  all_goals (
    have K5 := hid (show Kept [] w3 w5 from ((Kept.refl [] w3).drew.trans hk1).trans hr1)
    have VA := hid hv1
    clear hk1 hr1 hv1 hsh1 hrun1 r0 r1 r2 r3 p0 p1
    obtain ⟨r0, r1, r2, r3⟩ := LR.out _ K5.out
    obtain ⟨p0, p1⟩ := LP.out _ K5.out
    obtain ⟨s2, hs2⟩ : ∃ s, s = parts n y := ⟨_, rfl⟩
    have t12 := parts_pos n y
    have t22 := parts_le y n1
    have t32 := parts_16 y n1
    rw [← hs2] at t12 t22 t32
    have HS2 := hid hs2
    clear hs2
    go_wp2_with fail
    go_region_held3 (fun w' => w'.cell? ⟨rb, 0, none⟩ = some (.int .i64 kd) ∧ w'.cell? ⟨rb, 1, none⟩ = some (.int .i64 ar) ∧ w'.cell? ⟨rb, 2, none⟩ = some (.int .i64 pr) ∧ w'.cell? ⟨rb, 3, none⟩ = some (.int .i64 nd) ∧ w'.cell? ⟨pbk, 0, none⟩ = some (.int .u8 x) ∧ w'.cell? ⟨pbk, 1, none⟩ = some (.int .u8 y))
      (first
        | exact ⟨r0, r1, r2, r3, p0, p1⟩
        | exact all_six (LR.out _ (K5.out.drew.trans (hk2.trans hr2))) (LP.out _ (K5.out.drew.trans (hk2.trans hr2)))
        | exact all_six (LR.out _ (K5.out.drew.trans hk2)) (LP.out _ (K5.out.drew.trans hk2)))
      (first
        | (go_at_call 18; refine (Shards_ok _ (.slice ea es.length ec) es n y _ ((EX.out _ K5.out).ext ((Kept.refl [] w5).drew)) n1 (by omega) (by assumption) (lead_rising HG.out.rise) (by have := HG.out.len; omega)).mono ?_; rintro e w6 ⟨u2, rfl, hk2, hsh2⟩; rw [← HS2.out] at hsh2; obtain ⟨sa2, sc2, rfl, hsc2⟩ := hsh2.slice; rw [cuts_length] at hsh2 hsc2 ⊢; have hrun2 := Run_ok kd ar pr nd n sa2 (shList es n s2) sc2 w6 OK.out pr7 n1 (by omega) (shList_of HG.out hsh2 t12 t22) (by rw [shList_length]; omega); rw [shList_length, shList_edges es t12, RR.out] at hrun2)
        | (go_at_call 46; refine hrun2.mono ?_; rintro e w7 ⟨vb, rfl, hr2, hv2⟩))
    all_goals (
      have K7 := hid (show Kept [] w3 w7 from (K5.out.drew.trans hk2).trans hr2)
      have VB := hid hv2
      have VA2 := hid (ownsRow_kept VA.out ((Kept.refl [] w5).drew.trans (hk2.trans hr2)) (by simp))
      clear hk2 hr2 hv2 hsh2 hrun2 r0 r1 r2 r3 p0 p1
      have re : (((R.2 : Nat) : Int) == ((R.2 : Nat) : Int)) = true := by simp
      go_wp2_with fail
      refine (Numbers_true _ _ va vb R.1 R.1 _ VA2.out VB.out (by rw [RL.out]; omega) rfl).mono ?_
      rintro e w8 ⟨rfl, hk8⟩
      have K8 := hid (K7.out.trans hk8)
      clear hk8
      go_wp2_with fail
      refine (turns_ok _).mono ?_
      rintro e w9 ⟨rfl, hk9⟩
      have K9 := hid (KW.out.trans (K8.out.trans hk9))
      clear hk9
      go_wp2_with fail
      go_ret
      exact ⟨rfl, K9.out⟩))

set_option maxRecDepth 100000 in
set_option maxHeartbeats 1000000 in
theorem KernelsParts_ok (N : Nat) (a : Option Addr) (c : Nat) (ps : List (Nat × Nat)) (K A P D x y : Nat) (w : World) (h : IsPairs w a ps) (hN : N < 256)
    (hps : ∀ i, i < ps.length → (edge ps i).1 < 256 ∧ (edge ps i).2 < 256) (hK : K < 256) (hA : A < 256) (hP : P < 256) (hD : D < 65536) (hx : x < 256) (hy : y < 256) :
    Calls Try.prog 11 #[.agg #[.int .u8 N, .slice a ps.length c], .agg #[.int .u8 K, .int .u8 A, .int .u8 P, .int .u16 D], .agg #[.int .u8 x, .int .u8 y]] w fun e w' => e = .returned (.bool true) ∧ Kept [] w w' := by
  by_cases h1 : ps.length ≤ 300
  · exact KernelsParts_main N a c ps K A P D x y w h hN hps hK hA hP hD hx hy h1
  · have d1 : decide ((300 : Int) < ps.length) = true := by simp; omega
    go_enter Try.func11, Try.ntmps11
    go_wp2_with fail
    have kb : Kept [] w (((w.alloc (.cells #[.int .u8 N, .slice a ps.length c] 24)).alloc (.cells #[.int .u8 K, .int .u8 A, .int .u8 P, .int .u16 D] 85)).alloc (.cells #[.int .u8 x, .int .u8 y] 58)) := (((Kept.refl _ _).alloc _).alloc _).alloc _
    refine (turns_ok _).mono ?_
    rintro e w7 ⟨rfl, hk7⟩
    have K7 := hid (kb.trans hk7)
    clear hk7 kb
    go_wp2_with fail
    go_ret
    exact ⟨rfl, K7.out⟩
end Go.Proofs.Ytedljgohmlilgaa
