/-
  From a row's world to the walks' words, and back: a law that only reads its arguments.
-/
import Derived.Test.YtedljgohmlilgaaGr
import Derived.ProofKit
import Derived.ReadAgain
import Derived.OpenShut
namespace Go.Proofs.Ytedljgohmlilgaa
open Go.RowKit Go.ChangeShapes Go.WideShapes Go.ChangeAt
set_option linter.unusedVariables false

theorem Kept.keptBut {W W' : World} (h : Kept [] W W') (may : MemPlace → Prop) : W.keptBut W' may := by
  refine ⟨h.os, h.output, fun i hi => ?_⟩
  rw [h.block i hi (by simp)]
  cases W.heap[i]? with
  | none => trivial
  | some o =>
    cases o with
    | cells c t fr => exact ⟨rfl, rfl, rfl, fun _ _ => rfl⟩
    | map es clock => exact .inr ⟨rfl, rfl⟩
    | _ => trivial
theorem Kept.sameAt {W W' : World} (h : Kept [] W W') {p : MemPlace} (hp : p.block < W.heap.size) : W.sameAt W' p := by
  cases p with
  | cell b off => exact h.cell hp (by simp)
  | map b => exact h.block b hp (by simp)
theorem carryAll {H : Type} {enc : TypeId × Value → H} {P : Program} {W W' : World} {base : Nat} {spare : Nat → Bool} {held : Bool} : ∀ {ts : List TypeId} {vs : List Value} {ds : List (DataW H)} {ps : List MemPlace},
    DataW.TrodAll enc P W base spare held ts vs ds ps → (∀ p ∈ ps, W.sameAt W' p) → DataW.TrodAll enc P W' base spare held ts vs ds ps
  | [], [], [], _, h, _ => h
  | _ :: _, _ :: _, _ :: _, _, ⟨p, q, ⟨n, h1⟩, h2, e⟩, hs => ⟨p, q, ⟨n, DataW.trod_carry n _ _ _ h1 (fun x hx => hs x (by rw [e]; exact List.mem_append_left _ hx))⟩, carryAll h2 (fun x hx => hs x (by rw [e]; exact List.mem_append_right _ hx)), e⟩

def natAt (w : World) (p : Addr) : Nat := match w.cell? p with | some (.int _ x) => x.toNat | _ => 0
theorem natAt_eq {w : World} {p : Addr} {k : IntKind} {x : Int} (h : w.cell? p = some (.int k x)) : natAt w p = x.toNat := by simp [natAt, h]
theorem byte_of_wf {x : Int} (h : (Lit.int .u8 x).wf = true) : 0 ≤ x ∧ x < 256 := by
  simp [Lit.wf, IntKind.min, IntKind.max, IntKind.signed, IntKind.bits] at h
  omega
theorem spot_none {w : World} {a : Addr} {v : Value} (h : w.cell? a = some v) : a.spot = none := by
  unfold World.cell? at h
  split at h
  · split at h
    · cases h
    · rename_i hs; simpa using hs
  · cases h
theorem addr_lit {a : Addr} (h : a.spot = none) : a = ⟨a.block, a.off, none⟩ := by cases a; simp at h; subst h; rfl

theorem cells_pair : Try.prog.cellsOf 58 = 2 := by kernel_rfl
theorem cells_u8 : Try.prog.cellsOf 5 = 1 := by kernel_rfl

set_option maxHeartbeats 1000000 in
/-- A slice of pairs of bytes, as a world shows it. -/
theorem open_pairs {H : Type} {enc : TypeId × Value → H} {W : World} {base fuel : Nat} {spare : Nat → Bool} {held : Bool} {cs : List Value} {x : DataW H × List MemPlace} (h : DataW.trod enc Try.prog W base spare held fuel 22 cs = some x) :
    ∃ a ps c, cs = [.slice a (List.length ps) c] ∧ IsPairs W a ps ∧ (∀ i, i < ps.length → (edge ps i).1 < 256 ∧ (edge ps i).2 < 256) ∧ ps.length ≤ maxLen := by
  rcases DataW.trod_slice Try.underlying22 h with ⟨rfl, _⟩ | ⟨a, len, cap, elems, rest, n, _, rfl, _, _, hl, hc, _, hel, _⟩
  · exact ⟨none, [], 0, rfl, ⟨fun i hi => by simp at hi⟩, fun i hi => by simp at hi, by simp⟩
  · have key : ∀ i, i < len → ∃ x y : Int, W.cell? (a.add (i * 2)) = some (.int .u8 x) ∧ W.cell? ((a.add (i * 2)).add 1) = some (.int .u8 y) ∧ 0 ≤ x ∧ x < 256 ∧ 0 ≤ y ∧ y < 256 := by
      intro i hi
      have he := hel i hi
      rw [cells_pair] at he
      have hlt : i < elems.length := by omega
      rw [List.getElem?_eq_getElem hlt, Option.bind_eq_some_iff] at he
      obtain ⟨l, hl1, hl2⟩ := he
      obtain ⟨_, hlen, hcell⟩ := World.cells?_some hl1
      obtain ⟨xs, m, _, _, _, hxs, hj⟩ := DataW.trod_array Try.underlying58 hl2
      rw [cells_u8] at hj
      have j0 := hj 0 (by omega)
      have j1 := hj 1 (by omega)
      rw [List.getElem?_eq_getElem (by omega)] at j0 j1
      obtain ⟨x, ex, _, wx⟩ := DataW.trod_int Try.underlying5 j0
      obtain ⟨y, ey, _, wy⟩ := DataW.trod_int Try.underlying5 j1
      have c0 := hcell 0 (by omega)
      have c1 := hcell 1 (by omega)
      have bx := byte_of_wf wx
      have by' := byte_of_wf wy
      match l, hlen with
      | [p, q], _ =>
        simp at ex ey c0 c1
        subst ex ey
        refine ⟨x, y, ?_, c1, bx.1, bx.2, by'.1, by'.2⟩
        simpa [Addr.add] using c0
    refine ⟨some a, (List.range len).map (fun i => (natAt W (a.add (i * 2)), natAt W ((a.add (i * 2)).add 1))), cap, by simp, ⟨fun i hi => ?_⟩, fun i hi => ?_, by simp; omega⟩
    · have hi' : i < len := by simpa using hi
      obtain ⟨x0, y0, h0, _⟩ := key 0 (by omega)
      have hs : a.spot = none := spot_none (by simpa [Addr.add] using h0)
      obtain ⟨x, y, h1, h2, b1, b2, b3, b4⟩ := key i hi'
      have hlit := addr_lit hs
      have e : edge ((List.range len).map (fun i => (natAt W (a.add (i * 2)), natAt W ((a.add (i * 2)).add 1)))) i = (x.toNat, y.toNat) := by
        rw [edge_eq hi]; simp [natAt_eq h1, natAt_eq h2]
      refine ⟨a.block, a.off, by rw [← hlit], ?_, ?_⟩
      · rw [e]
        rw [hlit, add_lit] at h1
        rw [h1]; simp; omega
      · rw [e]
        rw [hlit, add_lit, add_lit] at h2
        rw [h2]; simp; omega
    · have hi' : i < len := by simpa using hi
      obtain ⟨x, y, h1, h2, b1, b2, b3, b4⟩ := key i hi'
      rw [edge_eq hi]
      simp [natAt_eq h1, natAt_eq h2]
      omega

theorem cells_pairs : Try.prog.cellsOf 22 = 1 := by kernel_rfl
theorem cells_graph : Try.prog.cellsOf 24 = 2 := by kernel_rfl
set_option maxRecDepth 10000 in
set_option maxHeartbeats 1000000 in
/-- A graph, as a world shows it. -/
theorem open_graph {H : Type} {enc : TypeId × Value → H} {W : World} {base b0 : Nat} {r : Reach} {spare : Nat → Bool} {held : Bool} {v : Value} {d : DataW H} {ps : List MemPlace} (hval : Value.okWide Try.prog W r b0 24 v) (h : DataW.Trod enc Try.prog W base spare held 24 v d ps) :
    ∃ (N : Nat) (a : Option Addr) (es : List (Nat × Nat)) (c : Nat), v = .agg #[.int .u8 N, .slice a es.length c] ∧ N < 256 ∧ IsPairs W a es ∧ (∀ i, i < es.length → (edge es i).1 < 256 ∧ (edge es i).2 < 256) ∧ es.length ≤ maxLen := by
  obtain ⟨cs, rfl, hcs⟩ := okWide_struct Try.underlying24 hval
  obtain ⟨fuel, hf⟩ := h
  obtain ⟨xs, n, _, _, hl, hxs, hj⟩ := DataW.trod_struct Try.underlying24 hf
  have hx2 : xs.length = 2 := hxs
  have j0 := hj 0 _ rfl
  have j1 := hj 1 _ rfl
  rw [List.getElem?_eq_getElem (by omega)] at j0 j1
  obtain ⟨x, ex, _, wx⟩ := DataW.trod_int Try.underlying5 j0
  obtain ⟨a, es, c, ey, h1, h2, h3⟩ := open_pairs j1
  rw [cells_graph] at hcs
  have bx := byte_of_wf wx
  obtain ⟨p, q, hpq⟩ : ∃ p q, cs = #[p, q] := by
    match cs, hcs with
    | ⟨[p, q]⟩, _ => exact ⟨p, q, rfl⟩
  subst hpq
  change List.take (Try.prog.cellsOf 5) (List.drop 0 (Value.agg #[p, q]).cells.toList) = _ at ex
  change List.take (Try.prog.cellsOf 22) (List.drop 1 (Value.agg #[p, q]).cells.toList) = _ at ey
  rw [cells_u8] at ex
  rw [cells_pairs] at ey
  simp [Value.cells] at ex ey
  subst ex ey
  exact ⟨x.toNat, a, es, c, by simp; omega, by omega, h1, h2, h3⟩

def flagAt (w : World) (p : Addr) : Bool := match w.cell? p with | some (.bool b) => b | _ => false
theorem cells_bool : Try.prog.cellsOf 4 = 1 := by kernel_rfl
set_option maxRecDepth 10000 in
set_option maxHeartbeats 1000000 in
theorem open_bools {H : Type} {enc : TypeId × Value → H} {W : World} {base : Nat} {spare : Nat → Bool} {held : Bool} {v : Value} {d : DataW H} {ps : List MemPlace} {r : Reach} {b0 : Nat} (hval : Value.okWide Try.prog W r b0 73 v) (h : DataW.Trod enc Try.prog W base spare held 73 v d ps) :
    ∃ a bs c, v = .slice a (List.length bs) c ∧ IsBools W a bs ∧ bs.length ≤ maxLen := by
  obtain ⟨a0, l0, c0, rfl⟩ := okWide_slice Try.underlying73 hval
  obtain ⟨fuel, hf⟩ := h
  rcases DataW.trod_slice Try.underlying73 hf with ⟨hcs, _⟩ | ⟨a, len, cap, elems, rest, n, _, hcs, _, _, hl, hc, _, hel, _⟩
  · simp [Value.cells] at hcs
    obtain ⟨rfl, rfl, rfl⟩ := hcs
    exact ⟨none, [], 0, rfl, ⟨fun i hi => by simp at hi⟩, Nat.zero_le _⟩
  · simp [Value.cells] at hcs
    obtain ⟨rfl, rfl, rfl⟩ := hcs
    rw [cells_bool] at hel
    have key : ∀ i, i < l0 → ∃ b : Bool, W.cell? (a.add i) = some (.bool b) := by
      intro i hi
      have he := hel i hi
      have hlt : i < elems.length := by omega
      rw [List.getElem?_eq_getElem hlt, Option.bind_eq_some_iff] at he
      obtain ⟨l, hl1, hl2⟩ := he
      obtain ⟨_, hlen, hcell⟩ := World.cells?_some hl1
      obtain ⟨b, hb, _⟩ := DataW.trod_bool Try.underlying4 hl2
      subst hb
      have c0 := hcell 0 (by omega)
      exact ⟨b, by simpa [Addr.add] using c0⟩
    refine ⟨some a, (List.range l0).map (fun i => flagAt W (a.add i)), c0, by simp, ⟨fun i hi => ?_⟩, by rw [List.length_map, List.length_range]; omega⟩
    have hi' : i < l0 := by simpa using hi
    obtain ⟨b0, h0⟩ := key 0 (by omega)
    have hs : a.spot = none := spot_none (by simpa [Addr.add] using h0)
    obtain ⟨b, h1⟩ := key i hi'
    have hlit := addr_lit hs
    refine ⟨a.block, a.off, by rw [← hlit], ?_⟩
    have e : flag ((List.range l0).map (fun i => flagAt W (a.add i))) i = b := by simp [flag, hi', flagAt, h1]
    rw [e]
    rw [hlit, add_lit] at h1
    exact h1
end Go.Proofs.Ytedljgohmlilgaa
