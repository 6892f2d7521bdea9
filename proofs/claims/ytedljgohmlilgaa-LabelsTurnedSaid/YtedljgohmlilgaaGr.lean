/-
  What the laws take of a graph: facts, and the first steps that they share.
-/
import Derived.Test.YtedljgohmlilgaaFr
import Derived.Test.YtedljgohmlilgaaNorm
namespace Go.Proofs.Ytedljgohmlilgaa
open Go.RowKit
set_option linter.unusedVariables false

theorem good_all {n : Nat} {l : List (Nat × Nat)} (h : Good n l) {e : Nat × Nat} (he : e ∈ normE l) : e.1 < n ∧ e.2 < n ∧ e.1 ≠ e.2 := by
  rw [mem_normE] at he
  obtain ⟨i, hi, rfl⟩ := List.getElem_of_mem he
  have := h i hi
  rwa [edge_eq hi] at this
/-- A graph as the laws make it. -/
structure Graphy (n : Nat) (es : List (Nat × Nat)) : Prop where
  n1 : 1 ≤ n
  n60 : n ≤ 60
  len : es.length ≤ 300
  rise : Rising es
  lt1 : ∀ e ∈ es, e.1 < n
  lt2 : ∀ e ∈ es, e.2 < n
  ne : ∀ e ∈ es, e.1 ≠ e.2
theorem graphy (N : Nat) (ps : List (Nat × Nat)) (h : ps.length ≤ 300) : Graphy (1 + N % 60) (normE (told (1 + N % 60) ps)) := by
  have hg := told_good (1 + N % 60) (by omega) ps
  refine ⟨by omega, by omega, ?_, normE_rising _, fun e he => (good_all hg he).1, fun e he => (good_all hg he).2.1, fun e he => (good_all hg he).2.2⟩
  have h1 := normE_length (told (1 + N % 60) ps)
  have h2 := told_length (1 + N % 60) ps
  omega
theorem Graphy.within {n : Nat} {es : List (Nat × Nat)} (h : Graphy n es) (fr m : Nat) : Within (rowsOf es fr m) n := within_rows (fun e he => ⟨h.lt1 e he, h.lt2 e he⟩) fr m
theorem Graphy.short {n : Nat} {es : List (Nat × Nat)} (h : Graphy n es) (fr m : Nat) : ∀ i, i < (rowsOf es fr m).length → (row (rowsOf es fr m) i).length ≤ 1000000 := fun i hi => Nat.le_trans (rows_short h.len fr m i hi) (by omega)
theorem parts_pos (n many : Nat) : 1 ≤ parts n many := by unfold parts; omega
theorem parts_le {n : Nat} (many : Nat) (h : 1 ≤ n) : parts n many ≤ n := by
  unfold parts
  have := Nat.mod_lt many (show 0 < min n 16 by omega)
  omega
theorem parts_16 {n : Nat} (many : Nat) (h : 1 ≤ n) : parts n many ≤ 16 := by
  unfold parts
  have := Nat.mod_lt many (show 0 < min n 16 by omega)
  omega

/-- A shard at a place, as the walks want it: its three cells, and its rows, which hold no block of L. -/
structure ShardAt (w : World) (L : List Nat) (g i fr m bo : Nat) (es : List (Nat × Nat)) : Prop where
  c0 : w.cell? ⟨g, i * 3, none⟩ = some (.int .i64 fr)
  c1 : w.cell? ⟨g, i * 3 + 1, none⟩ = some (.int .i64 ((fr + m : Nat) : Int))
  c2 : w.cell? ⟨g, i * 3 + 2, none⟩ = some (.slice (some ⟨bo, 0, none⟩) m m)
  out : IsOut w L (some ⟨bo, 0, none⟩) (rowsOf es fr m)
theorem IsShards.shard {w w' : World} {B : Nat} {a : Option Addr} {n s c : Nat} {es : List (Nat × Nat)} (h : IsShards w B (.slice a s c) es (cuts n s)) (h1 : 1 ≤ s) (h2 : s ≤ n) {i : Nat} (hi : i < s) (k : Kept [] w w') (L : List Nat) (hL : ∀ j ∈ L, w.heap.size ≤ j) :
    ∃ g fr m bo, a = some ⟨g, 0, none⟩ ∧ cutAt n s i = (fr, fr + m) ∧ fr + m ≤ n ∧ ShardAt w' L g i fr m bo es := by
  obtain ⟨g, bo, ha, q0, q1, q2, q3⟩ := h.at (i := i) (by rw [cuts_length]; exact hi)
  rw [edge_cuts hi] at q0 q1 q2 q3
  have p1 := cut_lt (n := n) (i := i) h1 h2
  have p2 := cut_le (n := n) hi
  refine ⟨g, (cutAt n s i).1, (cutAt n s i).2 - (cutAt n s i).1, bo, ha, ?_, by omega, ⟨k.cell_some q0 (by simp), ?_, k.cell_some q2 (by simp), (q3.to (fun j hj => .inr (hL j hj))).kept k (by simp)⟩⟩
  · apply Prod.ext
    · rfl
    · show (cutAt n s i).2 = (cutAt n s i).1 + ((cutAt n s i).2 - (cutAt n s i).1); omega
  · rw [show (cutAt n s i).1 + ((cutAt n s i).2 - (cutAt n s i).1) = (cutAt n s i).2 by omega]
    exact k.cell_some q1 (by simp)
theorem shardEdges_at {es : List (Nat × Nat)} {n s i fr m : Nat} (h : cutAt n s i = (fr, fr + m)) : shardEdges es (cutAt n s i) = edgesOf fr (rowsOf es fr m) := by
  rw [h]; unfold shardEdges; simp

def flag (bs : List Bool) (i : Nat) : Bool := bs.getD i false
structure IsBools (w : World) (a : Option Addr) (bs : List Bool) : Prop where
  cells : ∀ i, i < bs.length → ∃ b o, a = some ⟨b, o, none⟩ ∧ w.cell? ⟨b, o + i, none⟩ = some (.bool (flag bs i))
theorem IsBools.ext {w w' : World} {a : Option Addr} {bs : List Bool} (h : IsBools w a bs) (k : Kept [] w w') : IsBools w' a bs :=
  ⟨fun i hi => let ⟨b, o, ha, h1⟩ := h.cells i hi; ⟨b, o, ha, k.cell_some h1 (by simp)⟩⟩
end Go.Proofs.Ytedljgohmlilgaa
