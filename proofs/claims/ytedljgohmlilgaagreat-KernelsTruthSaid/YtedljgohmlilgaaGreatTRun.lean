/-
  The walks of truth.run, Of, Rounds at a graph as the laws make it.
-/
import Derived.Test.YtedljgohmlilgaaGreatTPl2
import Derived.Test.YtedljgohmlilgaaGreatNrmF
import Derived.Test.YtedljgohmlilgaaGreatGKerT
namespace Go.Proofs.YtedljgohmlilgaaGreat
open Go.RowKit
set_option linter.unusedVariables false
set_option linter.unusedSimpArgs false

theorem no_bad {n : Nat} {es : List (Nat × Nat)} (G : Graphy n es) : es.any (badE n) = false := by
  rw [List.any_eq_false]
  intro e he
  have h1 := G.lt1 e he
  have h2 := G.lt2 e he
  have h3 := G.ne e he
  unfold badE
  simp [h1, h2, h3]
theorem within_out {n : Nat} {es : List (Nat × Nat)} (G : Graphy n es) : Within (outR n es) n := by
  rw [outR_rows n es G.lt1]; exact G.within 0 n
theorem within_all {n : Nat} {es : List (Nat × Nat)} (G : Graphy n es) : Within (allR n es) n := by
  intro i hi j hj
  rw [nat_eq hj]
  have hm := (mem_allR (fun e he => ⟨G.lt1 e he, G.lt2 e he⟩)).1 (List.getElem_mem hj)
  rcases hm with hm | hm
  · exact G.lt2 _ hm
  · exact G.lt1 _ hm
theorem short_out {n : Nat} {es : List (Nat × Nat)} (G : Graphy n es) : ∀ j, (row (outR n es) j).length ≤ 1000000 := fun j => by
  have := outR_bound (n := n) (fun e he => ⟨G.lt1 e he, G.lt2 e he⟩) j
  have := G.len
  omega
theorem short_all {n : Nat} {es : List (Nat × Nat)} (G : Graphy n es) : ∀ j, (row (allR n es) j).length ≤ 1000000 := fun j => by
  have := allR_bound (n := n) (fun e he => ⟨G.lt1 e he, G.lt2 e he⟩) j
  have := G.len
  omega
theorem sym_all {n : Nat} {es : List (Nat × Nat)} (G : Graphy n es) : ∀ u x, u < n → x < n → x ∈ row (allR n es) u → u ∈ row (allR n es) x := fun u x hu hx h => by
  have hlt : ∀ e ∈ es, e.1 < n ∧ e.2 < n := fun e he => ⟨G.lt1 e he, G.lt2 e he⟩
  rcases (mem_allR hlt).1 h with hm | hm
  · exact (mem_allR hlt).2 (.inr hm)
  · exact (mem_allR hlt).2 (.inl hm)

set_option maxRecDepth 100000 in
set_option maxHeartbeats 16000000 in
theorem trun_ok (k g p d n : Nat) (a : Option Addr) (c B : Nat) (es : List (Nat × Nat)) (w : World) (h : IsEdges w 59 B (.slice a es.length c) es) (G : Graphy n es) (ho : okReq k g n) (hp : p ≤ 7) :
    Calls Tryz.prog 24 #[.int .i64 n, .slice a es.length c, rq k g p d] w fun e w' => ∃ gg m out, e = .returned (.tuple #[.slice (some ⟨gg, 0, none⟩) n n, .int .i64 (m : Nat), .int .i64 0]) ∧ w.heap.size ≤ gg ∧ Kept [] w w' ∧ U64s w' gg out ∧ IsRun k g n (tri es n) out m := by
  have n1 := G.n1
  have n60 := G.n60
  have HG := hid G
  have HE := hid h
  have HO := hid ho
  have hlt := hid (show ∀ e ∈ es, e.1 < n ∧ e.2 < n from fun e he => ⟨G.lt1 e he, G.lt2 e he⟩)
  clear G h ho
  obtain ⟨rb, hrb⟩ : ∃ rb, rb = w.heap.size := ⟨_, rfl⟩
  obtain ⟨w0, hw0⟩ : ∃ w0, w0 = w.alloc (.cells #[.int .i64 (k : Int), .int .i64 (g : Int), .int .i64 (p : Int), .int .i64 (d : Int)] 45) := ⟨_, rfl⟩
  have K0 := hid (show Kept [] w w0 by rw [hw0]; exact (Kept.refl _ _).alloc _)
  have R0 := hid (show w0.heap[rb]? = some (.cells #[.int .i64 (k : Int), .int .i64 (g : Int), .int .i64 (p : Int), .int .i64 (d : Int)] 45 (0, 0)) by rw [hw0]; exact new_obj hrb)
  have HW0 := hid hw0
  have HRB := hid hrb
  clear hw0 hrb
  go_enter Tryz.func24, Tryz.ntmps24
  go_wp2_with fail
  rw [← HW0.out, ← HRB.out]
  go_wp2_with fail
  refine (eNormal_ok n a c B 59 es w0 (HE.out.ext K0.out) HG.out.rise (by have := HG.out.len; omega) n1 (by omega) (no_bad HG.out)).mono ?_
  rintro e w1 ⟨c1, a1, rfl, h1, hk1⟩
  have E1 := hid h1
  have K1 := hid (K0.out.trans hk1)
  have R1 := hid (hk1.obj R0.out (by simp))
  clear h1 hk1
  go_wp2_with fail
  refine (Equal_edges a a1 es c c1 B w0.heap.size 59 59 w1 (HE.out.ext K1.out) E1.out (by have := HG.out.len; omega)).mono ?_
  rintro e w2 ⟨rfl, hk2⟩
  have K2 := hid (K1.out.trans hk2)
  have R2 := hid (hk2.obj R1.out (by simp))
  have q0 : w2.cell? ⟨rb, 0, none⟩ = some (.int .i64 (k : Int)) := cell_of_obj R2.out 0
  have q1 : w2.cell? ⟨rb, 1, none⟩ = some (.int .i64 (g : Int)) := cell_of_obj R2.out 1
  have q2 : w2.cell? ⟨rb, 2, none⟩ = some (.int .i64 (p : Int)) := cell_of_obj R2.out 2
  have q3 : w2.cell? ⟨rb, 3, none⟩ = some (.int .i64 (d : Int)) := cell_of_obj R2.out 3
  clear hk2
  go_wp2_with fail
  refine (tCheck_ok k g p d n w2 HO.out hp n1 (by omega)).mono ?_
  rintro e w3 ⟨rfl, hk3⟩
  have K3 := hid (K2.out.trans hk3)
  have R3 := hid (hk3.obj R2.out (by simp))
  clear hk3 q0 q1 q2 q3
  go_wp2_with fail
  refine (tof_ok n a c B es w3 (HE.out.ext K3.out) n1 (by omega) hlt.out (by have := HG.out.len; omega)).mono ?_
  rintro e w4 ⟨bo, ba, rfl, hk4, hou, hal⟩
  obtain ⟨gb, hgb⟩ : ∃ gb, gb = w4.heap.size := ⟨_, rfl⟩
  obtain ⟨w5, hw5⟩ : ∃ w5, w5 = w4.alloc (.cells #[.int .i64 (n : Int), .slice (some ⟨bo, 0, none⟩) n n, .slice (some ⟨ba, 0, none⟩) n n] 96) := ⟨_, rfl⟩
  have k45 : Kept [] w4 w5 := by rw [hw5]; exact (Kept.refl _ _).alloc _
  have K5 := hid ((K3.out.trans hk4).trans k45)
  have R5 := hid ((hk4.trans k45).obj R3.out (by simp))
  have G5 := hid (show GBox w5 gb n (some ⟨bo, 0, none⟩) (some ⟨ba, 0, none⟩) from ⟨by rw [hw5]; exact new_obj hgb⟩)
  have OU := hid (show IsOut w5 [] (some ⟨bo, 0, none⟩) (outR n es) from (hou [] (by simp)).kept k45 (by simp))
  have AL := hid (show IsOut w5 [] (some ⟨ba, 0, none⟩) (allR n es) from (hal [] (by simp)).kept k45 (by simp))
  have HW5 := hid hw5
  have HGB := hid hgb
  have R4 := hk4.obj R3.out (by simp)
  have l4 : rb < w4.heap.size := obj_lt R4
  have q0 : w4.cell? ⟨rb, 0, none⟩ = some (.int .i64 (k : Int)) := cell_of_obj R4 0
  have q1 : w4.cell? ⟨rb, 1, none⟩ = some (.int .i64 (g : Int)) := cell_of_obj R4 1
  clear hk4 hou hal k45 hw5 hgb R4
  rcases HO.out with ⟨rfl, hg⟩ | ⟨rfl, hg, hg2⟩ | ⟨rfl, rfl⟩ | ⟨rfl, hg⟩
  · go_wp2_with fail
    rw [← HW5.out, ← HGB.out]
    refine (tfar_ok (outR n es) n g (some ⟨bo, 0, none⟩) n [] w5 OU.out (outR_length n es) hg (by omega) (within_out HG.out) (short_out HG.out)).mono ?_
    rintro e w6 ⟨gg, out, rfl, hgg, hk6, hu6, hd6⟩
    have K6 := hid (K5.out.trans hk6)
    have hgw := hid (show w.heap.size ≤ gg by have := K5.out.size; omega)
    have RUN := hid (bfs_run hlt.out hg (by omega) hd6)
    have hb := gm_in hd6.low n (Nat.le_refl _)
    have U6 := hid hu6
    go_wp2_with fail
    refine (tgreatest_ok out n gg w6 hu6 hd6.len (by omega) hd6.low).mono ?_
    rintro e w7 ⟨rfl, rfl⟩
    obtain ⟨gl, hgl⟩ : ∃ gl, gl = gm out n := ⟨_, rfl⟩
    rw [← hgl] at RUN hb ⊢
    obtain ⟨m, hm⟩ : ∃ m : Nat, m = gl.toNat + 1 := ⟨_, rfl⟩
    have ae := hid (show gl + 1 = (m : Int) by omega)
    rw [← hm] at RUN
    clear hm
    clear hk6 hu6 hd6 hgg hgl
    go_wp2
    refine bodyPost_ret (v := .tuple #[.slice (some ⟨gg, 0, none⟩) n n, .int .i64 (m : Int), .int .i64 0]) (by simp [results, Tryz.results24, go_sem]; exact ae.out) rfl ?_
    exact ⟨gg, _, out, rfl, hgw.out, K6.out, U6.out, RUN.out⟩
  · go_wp2_with fail
    rw [← HW5.out, ← HGB.out]
    have f0 : w5.cell? ⟨gb, 0, none⟩ = some (.int .i64 (n : Int)) := cell_of_obj G5.out.obj 0
    have f1 : w5.cell? ⟨gb, 1, none⟩ = some (.slice (some ⟨bo, 0, none⟩) n n) := cell_of_obj G5.out.obj 1
    have f2 : w5.cell? ⟨gb, 2, none⟩ = some (.slice (some ⟨ba, 0, none⟩) n n) := cell_of_obj G5.out.obj 2
    have p1 : w5.cell? ⟨rb, 1, none⟩ = some (.int .i64 (g : Int)) := cell_of_obj R5.out 1
    have RUN := hid (rank_run (n := n) (R := g) (fun e he => (hlt.out e he).1) hg)
    clear q0 q1 l4
    go_region_with (go_at_call 36; refine (trank_ok (outR n es) n g (some ⟨bo, 0, none⟩) (some ⟨ba, 0, none⟩) [] _ (OU.out.kept ((Kept.refl [] w5).drew) (by simp)) (outR_length n es) n1 (by omega) (within_out HG.out) (short_out HG.out) (by omega)).mono ?_; rintro e w6 ⟨gg, rfl, hgg, hk6, hu6⟩; have p2 : w6.cell? ⟨rb, 1, none⟩ = some (.int .i64 (g : Int)) := hk6.cell_some (show w5.drew.cell? ⟨rb, 1, none⟩ = _ from p1) (by simp))
    all_goals (
      have K6 := hid ((K5.out.drew).trans hk6)
      have hgw := hid (show w.heap.size ≤ gg by have := K5.out.size; have : w5.heap.size ≤ gg := hgg; omega)
      have U6 := hid hu6
      clear hk6 hu6 hgg
      go_wp2
      refine bodyPost_ret (v := .tuple #[.slice (some ⟨gg, 0, none⟩) n n, .int .i64 (g : Int), .int .i64 0]) (by simp [results, Tryz.results24, go_sem]) rfl ?_
      exact ⟨gg, g, _, rfl, hgw.out, K6.out, U6.out, RUN.out⟩)
  · go_wp2_with fail
    rw [← HW5.out, ← HGB.out]
    have f0 : w5.cell? ⟨gb, 0, none⟩ = some (.int .i64 (n : Int)) := cell_of_obj G5.out.obj 0
    have f1 : w5.cell? ⟨gb, 1, none⟩ = some (.slice (some ⟨bo, 0, none⟩) n n) := cell_of_obj G5.out.obj 1
    have f2 : w5.cell? ⟨gb, 2, none⟩ = some (.slice (some ⟨ba, 0, none⟩) n n) := cell_of_obj G5.out.obj 2
    go_wp2_with fail
    refine (tlabels_ok (allR n es) n (some ⟨bo, 0, none⟩) (some ⟨ba, 0, none⟩) [] w5 AL.out (allR_length n es) n1 (by omega) (within_all HG.out) (short_all HG.out) (sym_all HG.out)).mono ?_
    rintro e w6 ⟨gg, out, most, rt, f, rfl, hgg, hk6, hu6, hI⟩
    have K6 := hid (K5.out.trans hk6)
    have hgw := hid (show w.heap.size ≤ gg by have := K5.out.size; omega)
    have RUN := hid (lab_run hlt.out hI)
    have hb := hI.low
    have U6 := hid hu6
    obtain ⟨m, hm⟩ : ∃ m : Nat, m = most.toNat + 1 := ⟨_, rfl⟩
    have ae := hid (show most + 1 = (m : Int) by omega)
    rw [← hm] at RUN
    clear hm
    clear hk6 hu6 hI hgg
    go_wp2
    refine bodyPost_ret (v := .tuple #[.slice (some ⟨gg, 0, none⟩) n n, .int .i64 (m : Int), .int .i64 0]) (by simp [results, Tryz.results24, go_sem]; exact ae.out) rfl ?_
    exact ⟨gg, _, out, rfl, hgw.out, K6.out, U6.out, RUN.out⟩
  · go_wp2_with fail
    rw [← HW5.out, ← HGB.out]
    have f0 : w5.cell? ⟨gb, 0, none⟩ = some (.int .i64 (n : Int)) := cell_of_obj G5.out.obj 0
    have f1 : w5.cell? ⟨gb, 1, none⟩ = some (.slice (some ⟨bo, 0, none⟩) n n) := cell_of_obj G5.out.obj 1
    have f2 : w5.cell? ⟨gb, 2, none⟩ = some (.slice (some ⟨ba, 0, none⟩) n n) := cell_of_obj G5.out.obj 2
    go_wp2_with fail
    refine (tcores_ok (allR n es) n g (some ⟨bo, 0, none⟩) (some ⟨ba, 0, none⟩) [] w5 AL.out (allR_length n es) n1 (by omega) (within_all HG.out) (short_all HG.out) (by omega)).mono ?_
    rintro e w6 ⟨gg, m, rfl, hgg, hk6, hu6, hm, hz1, hz2⟩
    have K6 := hid (K5.out.trans hk6)
    have hgw := hid (show w.heap.size ≤ gg by have := K5.out.size; omega)
    have RUN := hid (core_run HG.out hm hz1 hz2)
    have U6 := hid hu6
    have a1 : wrap64 ((m : Int) + 1) = ((m + 1 : Nat) : Int) := by rw [IntWalk.wrap64_in _ (by omega)]; omega
    clear hk6 hu6 hz1 hz2 hgg
    go_wp2
    refine bodyPost_ret (v := .tuple #[.slice (some ⟨gg, 0, none⟩) n n, .int .i64 ((m + 1 : Nat) : Int), .int .i64 0]) (by simp [results, Tryz.results24, go_sem]) rfl ?_
    exact ⟨gg, _, _, rfl, hgw.out, K6.out, U6.out, RUN.out⟩

set_option maxRecDepth 100000 in
set_option maxHeartbeats 4000000 in
theorem tOf_ok (k g p d n : Nat) (a : Option Addr) (c B : Nat) (es : List (Nat × Nat)) (w : World) (h : IsEdges w 59 B (.slice a es.length c) es) (G : Graphy n es) (ho : okReq k g n) (hp : p ≤ 7) :
    Calls Tryz.prog 11 #[.int .i64 n, .slice a es.length c, rq k g p d] w fun e w' => ∃ gg m out, e = .returned (.tuple #[.slice (some ⟨gg, 0, none⟩) n n, .int .i64 0]) ∧ w.heap.size ≤ gg ∧ Kept [] w w' ∧ U64s w' gg out ∧ IsRun k g n (tri es n) out m := by
  have HG := hid G
  have HE := hid h
  have HO := hid ho
  clear G h ho
  obtain ⟨w0, hw0⟩ : ∃ w0, w0 = w.alloc (.cells #[.int .i64 (k : Int), .int .i64 (g : Int), .int .i64 (p : Int), .int .i64 (d : Int)] 45) := ⟨_, rfl⟩
  have K0 := hid (show Kept [] w w0 by rw [hw0]; exact (Kept.refl _ _).alloc _)
  have HW0 := hid hw0
  clear hw0
  go_enter Tryz.func11, Tryz.ntmps11
  go_wp2_with fail
  rw [← HW0.out]
  refine (trun_ok k g p d n a c B es w0 (HE.out.ext K0.out) HG.out HO.out hp).mono ?_
  rintro e w1 ⟨gg, m, out, rfl, hgg, hk1, hu1, hr⟩
  have K1 := hid (K0.out.trans hk1)
  have hgw := hid (show w.heap.size ≤ gg by have := K0.out.size; omega)
  have U1 := hid hu1
  have RR := hid hr
  clear hk1 hu1 hr hgg
  go_wp2
  refine bodyPost_ret (v := .tuple #[.slice (some ⟨gg, 0, none⟩) n n, .int .i64 0]) (by simp [results, Tryz.results11, go_sem]) rfl ?_
  exact ⟨gg, m, out, rfl, hgw.out, K1.out, U1.out, RR.out⟩

set_option maxRecDepth 100000 in
set_option maxHeartbeats 4000000 in
theorem tRounds_ok (k g p d n : Nat) (a : Option Addr) (c B : Nat) (es : List (Nat × Nat)) (w : World) (h : IsEdges w 59 B (.slice a es.length c) es) (G : Graphy n es) (ho : okReq k g n) (hp : p ≤ 7) :
    Calls Tryz.prog 12 #[.int .i64 n, .slice a es.length c, rq k g p d] w fun e w' => ∃ m out, e = .returned (.tuple #[.int .i64 (m : Nat), .int .i64 0]) ∧ Kept [] w w' ∧ IsRun k g n (tri es n) out m := by
  have HG := hid G
  have HE := hid h
  have HO := hid ho
  clear G h ho
  obtain ⟨w0, hw0⟩ : ∃ w0, w0 = w.alloc (.cells #[.int .i64 (k : Int), .int .i64 (g : Int), .int .i64 (p : Int), .int .i64 (d : Int)] 45) := ⟨_, rfl⟩
  have K0 := hid (show Kept [] w w0 by rw [hw0]; exact (Kept.refl _ _).alloc _)
  have HW0 := hid hw0
  clear hw0
  go_enter Tryz.func12, Tryz.ntmps12
  go_wp2_with fail
  rw [← HW0.out]
  refine (trun_ok k g p d n a c B es w0 (HE.out.ext K0.out) HG.out HO.out hp).mono ?_
  rintro e w1 ⟨gg, m, out, rfl, hgg, hk1, hu1, hr⟩
  have K1 := hid (K0.out.trans hk1)
  have RR := hid hr
  clear hk1 hu1 hr hgg
  go_wp2
  refine bodyPost_ret (v := .tuple #[.int .i64 (m : Nat), .int .i64 0]) (by simp [results, Tryz.results12, go_sem]) rfl ?_
  exact ⟨m, out, rfl, K1.out, RR.out⟩

/-- Just one run is behind rounds' end. -/
theorem IsRun.same {k g n : Nat} {T : List (Nat × Nat × Nat)} {o1 o2 : List Int} {m1 m2 : Nat} (h : IsRun k g n T o1 m1) (h' : IsRun k g n T o2 m2) : m1 = m2 ∧ o1 = o2 := by
  have e : m1 = m2 := by
    rcases Nat.lt_trichotomy m1 m2 with hl | rfl | hl
    · have a := h.done (m1 - 1) (by have := h.pos; omega)
      have b := h'.done (m1 - 1) (by omega)
      have := h.pos
      rw [a] at b
      simp at b
      omega
    · rfl
    · have a := h'.done (m2 - 1) (by have := h'.pos; omega)
      have b := h.done (m2 - 1) (by omega)
      have := h'.pos
      rw [a] at b
      simp at b
      omega
  subst e
  exact ⟨rfl, by rw [h.out, h'.out]⟩
end Go.Proofs.YtedljgohmlilgaaGreat
