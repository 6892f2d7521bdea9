/-
  The walks of rows.Fits and rows.Edges: a shard's edges.
-/
import Derived.Test.YtedljgohmlilgaaGreatRw
namespace Go.Proofs.YtedljgohmlilgaaGreat
set_option linter.unusedVariables false
open Go.RowKit

/-- All vertices of a shard are below n. -/
def Within (rows : List (List Nat)) (n : Nat) : Prop := ∀ i, i < rows.length → ∀ j, j < (row rows i).length → nat (row rows i) j < n

set_option maxRecDepth 100000 in
set_option maxHeartbeats 1000000 in
theorem Fits_ok (L : List Nat) (fr n : Nat) (t : Int) (a : Option Addr) (c : Nat) (rows : List (List Nat)) (w : World) (ho : IsOut w L a rows) (h1 : t ≤ n) (h2 : (fr : Int) + rows.length ≤ t) (h3 : t ≤ fr + rows.length) (hn : n ≤ 256) (hw : Within rows n) (hsz : ∀ i, i < rows.length → (row rows i).length ≤ 4611686018427387904) :
    Calls Tryz.prog 89 #[.agg #[.int .i64 fr, .int .i64 t, .slice a rows.length c], .int .i64 n] w fun e w' => e = .returned (.int .i64 0) ∧ Kept [] w w' := by
  have d1 : decide ((fr : Int) < 0) = false := by simp
  have d2 : decide ((n : Int) < t) = false := by simp; omega
  have d3 : decide (t < (fr : Int)) = false := by simp; omega
  have d4 : ((rows.length : Int) == t - fr) = true := by simp; omega
  have HW := hid hw; clear hw
  have HZ := hid hsz; clear hsz
  go_enter Tryz.func89, Tryz.ntmps89
  go_wp2
  go_loopw [6, 8, 45] (fun _ _ v wr => ∃ k : Nat, k ≤ rows.length ∧ v = .int .i64 k ∧ Kept [] w wr ∧ IsOut wr L a rows) (fun _ _ v _ => rows.length - (intOf v).toNat)
  case atStart => exact ⟨0, Nat.zero_le _, rfl, (Kept.refl _ _).alloc _, ho.kept ((Kept.refl [] _).alloc _) (by simp)⟩
  case round =>
    obtain ⟨k, hk, rfl, hK, hO⟩ := hrel
    by_cases hlt : k < rows.length
    · obtain ⟨b, o, rfl, hb, u, cu, hc, hN⟩ := hO.cells k hlt
      have hz := HZ.out k hlt
      go_wp2
      go_loop [8, 51] (fun _ v => ∃ j : Nat, j ≤ (row rows k).length ∧ v = .int .i64 j) (fun _ v => (row rows k).length - (intOf v).toNat)
      case atStart => exact ⟨0, Nat.zero_le _, rfl⟩
      case round =>
        obtain ⟨j, hj, rfl⟩ := hrel
        by_cases hjl : j < (row rows k).length
        · obtain ⟨b', o', rfl, hb', hc'⟩ := hN.cells j hjl
          have hv := HW.out k hlt j hjl
          have e1 : decide ((nat (row rows k) j : Int) < 0) = false := by simp
          have e2 : decide ((n : Int) ≤ (nat (row rows k) j : Int)) = false := by simp; omega
          go_wp2
          exact ⟨⟨j + 1, by omega, by go_num⟩, by simp [intOf]; omega⟩
        · go_wp2
          exact ⟨⟨k + 1, by omega, by go_num, hK, hO⟩, by simp [intOf]; omega⟩
    · go_wp2
      go_ret
      exact ⟨rfl, hK⟩

set_option maxRecDepth 100000 in
set_option maxHeartbeats 1000000 in
/-- Each edge, by a closure that is told by what holds ahead of each edge. -/
theorem Edges_ok (S L : List Nat) (hSL : ∀ k, k ∈ S → k ∈ L) (fr : Nat) (t : Int) (a : Option Addr) (c : Nat) (rows : List (List Nat)) (f : FuncId) (cap : Array Value) (hf : Enters f) (J : Nat → World → Prop) (w : World)
    (hS : ∀ k, k ∈ S → k < w.heap.size) (ho : IsOut w L a rows) (hfr : fr + rows.length ≤ 256) (hsz : ∀ i, i < rows.length → (row rows i).length ≤ 4611686018427387904) (h0 : J 0 w)
    (hJ : ∀ j w w', J j w → Kept [] w w' → J j w')
    (hstep : ∀ j u v m w, (edgesOf fr rows)[j]? = some (u, v, m) → J j w → Calls Tryz.prog f (#[.int .i64 u, .int .i64 v, .int .i64 m] ++ cap) w fun e w' => e = .returned (.int .i64 0) ∧ J (j + 1) w' ∧ Kept S w w') :
    Calls Tryz.prog 90 #[.agg #[.int .i64 fr, .int .i64 t, .slice a rows.length c], .func (.func f) #[] cap] w fun e w' => e = .returned (.int .i64 0) ∧ J (edgesOf fr rows).length w' ∧ Kept S w w' := by
  have H := hid hstep; clear hstep
  have HJ := hid hJ; clear hJ
  have HS := hid hS; clear hS
  have HL := hid hSL; clear hSL
  have HZ := hid hsz; clear hsz
  have hE := hf.run
  go_enter Tryz.func90, Tryz.ntmps90
  go_wp2
  go_loopw [5, 6, 8, 9, 13] (fun _ _ _ _ v wr => ∃ k : Nat, k ≤ rows.length ∧ v = .int .i64 k ∧ Kept S w wr ∧ IsOut wr L a rows ∧ wr.cell? ⟨w.heap.size, 0, none⟩ = some (.int .i64 fr) ∧ J (ahead rows k) wr) (fun _ _ _ _ v _ => rows.length - (intOf v).toNat)
  case atStart => exact ⟨0, Nat.zero_le _, rfl, (Kept.refl _ _).alloc _, ho.kept ((Kept.refl [] _).alloc _) (by simp), by simp, by rw [ahead_zero]; exact HJ.out _ _ _ h0 ((Kept.refl _ _).alloc _)⟩
  case round =>
    obtain ⟨k, hk, rfl, hK, hO, hbx, hJk⟩ := hrel
    by_cases hlt : k < rows.length
    · obtain ⟨b, o, rfl, hb, u, cu, hc, hN⟩ := hO.cells k hlt
      have hz := HZ.out k hlt
      go_wp2
      obtain ⟨wo, rfl⟩ : ∃ wo : World, wo = wr := ⟨_, rfl⟩
      go_loopw [8, 9, 20] (fun _ _ v wi => ∃ j : Nat, j ≤ (row rows k).length ∧ v = .int .i64 j ∧ Kept S w wi ∧ IsOut wi L (some ⟨b, o, none⟩) rows ∧ wi.cell? ⟨w.heap.size, 0, none⟩ = some (.int .i64 fr) ∧ IsNats wi L u (row rows k) ∧ J (ahead rows k + j) wi) (fun _ _ v _ => (row rows k).length - (intOf v).toNat)
      case atStart => exact ⟨0, Nat.zero_le _, rfl, hK, hO, hbx, hN, hJk⟩
      case round =>
        obtain ⟨j, hj, rfl, hK, hO, hbx, hN, hJj⟩ := hrel
        by_cases hjl : j < (row rows k).length
        · obtain ⟨b', o', rfl, hb', hc'⟩ := hN.cells j hjl
          have he := hid (edgesOf_at fr rows k j hlt hjl)
          go_wp2_with fail
          refine (H.out _ (fr + k) (nat (row rows k) j) (row rows k).length _ he.out hJj).mono ?_
          rintro e w' ⟨rfl, hJ', hK'⟩
          go_wp2
          have hS := HS.out
          have hSL := HL.out
          exact ⟨⟨j + 1, by omega, by go_num, hK.trans hK', hO.kept hK' hSL, hK'.cell_some hbx (fun hm => by have := hS _ hm; simp at this), hN.kept hK' hSL, by rw [← Nat.add_assoc]; exact hJ'⟩, by simp [intOf]; omega⟩
        · go_wp2
          obtain rfl : j = (row rows k).length := by omega
          exact ⟨⟨k + 1, by omega, by go_num, hK, hO, hbx, by rw [ahead_succ _ _ hlt]; exact hJj⟩, by simp [intOf]; omega⟩
    · go_wp2
      go_ret
      obtain rfl : k = rows.length := by omega
      exact ⟨rfl, by rw [edgesOf_length]; exact hJk, hK⟩
end Go.Proofs.YtedljgohmlilgaaGreat
