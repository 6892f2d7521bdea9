/-
  From a row's world to the walks' words, and back: a law that only reads its arguments.
-/
import Derived.Test.YtedljgohmlilgaaGreatGNorm
import Derived.ProofKit
import Derived.ReadAgain
import Derived.OpenShut
namespace Go.Proofs.YtedljgohmlilgaaGreat
open Go.RowKit Go.ChangeShapes Go.WideShapes Go.ChangeAt
set_option linter.unusedVariables false

theorem Kept.keptBut {W W' : World} (h : Kept [] W W') (may : MemPlace → Prop) : W.keptBut W' may := by
  refine ⟨h.os, h.output, fun i hi => ?_⟩
  rw [h.block i hi (by simp)]
  cases W.heap[i]? with
  | none => trivial
  | some o =>
    cases o with
    | cells c t fr => exact ⟨rfl, rfl, rfl, fun _ _ => rfl⟩
    | map es clock => exact .inr ⟨rfl, rfl⟩
    | _ => trivial
theorem Kept.sameAt {W W' : World} (h : Kept [] W W') {p : MemPlace} (hp : p.block < W.heap.size) : W.sameAt W' p := by
  cases p with
  | cell b off => exact h.cell hp (by simp)
  | map b => exact h.block b hp (by simp)
theorem carryAll {H : Type} {enc : TypeId × Value → H} {P : Program} {W W' : World} {base : Nat} {spare : Nat → Bool} {held : Bool} : ∀ {ts : List TypeId} {vs : List Value} {ds : List (DataW H)} {ps : List MemPlace},
    DataW.TrodAll enc P W base spare held ts vs ds ps → (∀ p ∈ ps, W.sameAt W' p) → DataW.TrodAll enc P W' base spare held ts vs ds ps
  | [], [], [], _, h, _ => h
  | _ :: _, _ :: _, _ :: _, _, ⟨p, q, ⟨n, h1⟩, h2, e⟩, hs => ⟨p, q, ⟨n, DataW.trod_carry n _ _ _ h1 (fun x hx => hs x (by rw [e]; exact List.mem_append_left _ hx))⟩, carryAll h2 (fun x hx => hs x (by rw [e]; exact List.mem_append_right _ hx)), e⟩

def natAt (w : World) (p : Addr) : Nat := match w.cell? p with | some (.int _ x) => x.toNat | _ => 0
theorem natAt_eq {w : World} {p : Addr} {k : IntKind} {x : Int} (h : w.cell? p = some (.int k x)) : natAt w p = x.toNat := by simp [natAt, h]
theorem byte_of_wf {x : Int} (h : (Lit.int .u8 x).wf = true) : 0 ≤ x ∧ x < 256 := by
  simp [Lit.wf, IntKind.min, IntKind.max, IntKind.signed, IntKind.bits] at h
  omega
theorem spot_none {w : World} {a : Addr} {v : Value} (h : w.cell? a = some v) : a.spot = none := by
  unfold World.cell? at h
  split at h
  · split at h
    · cases h
    · rename_i hs; simpa using hs
  · cases h
theorem addr_lit {a : Addr} (h : a.spot = none) : a = ⟨a.block, a.off, none⟩ := by cases a; simp at h; subst h; rfl

theorem cells_pair : Tryz.prog.cellsOf 58 = 2 := by kernel_rfl
theorem cells_u8 : Tryz.prog.cellsOf 5 = 1 := by kernel_rfl

set_option maxHeartbeats 1000000 in
/-- A slice of pairs of bytes, as a world shows it. -/
theorem open_pairs {H : Type} {enc : TypeId × Value → H} {W : World} {base fuel : Nat} {spare : Nat → Bool} {held : Bool} {cs : List Value} {x : DataW H × List MemPlace} (h : DataW.trod enc Tryz.prog W base spare held fuel 22 cs = some x) :
    ∃ a ps c, cs = [.slice a (List.length ps) c] ∧ IsPairs W a ps ∧ (∀ i, i < ps.length → (edge ps i).1 < 256 ∧ (edge ps i).2 < 256) ∧ ps.length ≤ maxLen := by
  rcases DataW.trod_slice Tryz.underlying22 h with ⟨rfl, _⟩ | ⟨a, len, cap, elems, rest, n, _, rfl, _, _, hl, hc, _, hel, _⟩
  · exact ⟨none, [], 0, rfl, ⟨fun i hi => by simp at hi⟩, fun i hi => by simp at hi, by simp⟩
  · have key : ∀ i, i < len → ∃ x y : Int, W.cell? (a.add (i * 2)) = some (.int .u8 x) ∧ W.cell? ((a.add (i * 2)).add 1) = some (.int .u8 y) ∧ 0 ≤ x ∧ x < 256 ∧ 0 ≤ y ∧ y < 256 := by
      intro i hi
      have he := hel i hi
      rw [cells_pair] at he
      have hlt : i < elems.length := by omega
      rw [List.getElem?_eq_getElem hlt, Option.bind_eq_some_iff] at he
      obtain ⟨l, hl1, hl2⟩ := he
      obtain ⟨_, hlen, hcell⟩ := World.cells?_some hl1
      obtain ⟨xs, m, _, _, _, hxs, hj⟩ := DataW.trod_array Tryz.underlying58 hl2
      rw [cells_u8] at hj
      have j0 := hj 0 (by omega)
      have j1 := hj 1 (by omega)
      rw [List.getElem?_eq_getElem (by omega)] at j0 j1
      obtain ⟨x, ex, _, wx⟩ := DataW.trod_int Tryz.underlying5 j0
      obtain ⟨y, ey, _, wy⟩ := DataW.trod_int Tryz.underlying5 j1
      have c0 := hcell 0 (by omega)
      have c1 := hcell 1 (by omega)
      have bx := byte_of_wf wx
      have by' := byte_of_wf wy
      match l, hlen with
      | [p, q], _ =>
        simp at ex ey c0 c1
        subst ex ey
        refine ⟨x, y, ?_, c1, bx.1, bx.2, by'.1, by'.2⟩
        simpa [Addr.add] using c0
    refine ⟨some a, (List.range len).map (fun i => (natAt W (a.add (i * 2)), natAt W ((a.add (i * 2)).add 1))), cap, by simp, ⟨fun i hi => ?_⟩, fun i hi => ?_, by simp; omega⟩
    · have hi' : i < len := by simpa using hi
      obtain ⟨x0, y0, h0, _⟩ := key 0 (by omega)
      have hs : a.spot = none := spot_none (by simpa [Addr.add] using h0)
      obtain ⟨x, y, h1, h2, b1, b2, b3, b4⟩ := key i hi'
      have hlit := addr_lit hs
      have e : edge ((List.range len).map (fun i => (natAt W (a.add (i * 2)), natAt W ((a.add (i * 2)).add 1)))) i = (x.toNat, y.toNat) := by
        rw [edge_eq hi]; simp [natAt_eq h1, natAt_eq h2]
      refine ⟨a.block, a.off, by rw [← hlit], ?_, ?_⟩
      · rw [e]
        rw [hlit, add_lit] at h1
        rw [h1]; simp; omega
      · rw [e]
        rw [hlit, add_lit, add_lit] at h2
        rw [h2]; simp; omega
    · have hi' : i < len := by simpa using hi
      obtain ⟨x, y, h1, h2, b1, b2, b3, b4⟩ := key i hi'
      rw [edge_eq hi]
      simp [natAt_eq h1, natAt_eq h2]
      omega

theorem cells_pairs : Tryz.prog.cellsOf 22 = 1 := by kernel_rfl
theorem cells_graph : Tryz.prog.cellsOf 24 = 2 := by kernel_rfl
set_option maxRecDepth 10000 in
set_option maxHeartbeats 1000000 in
/-- A graph, as a world shows it. -/
theorem open_graph {H : Type} {enc : TypeId × Value → H} {W : World} {base b0 : Nat} {r : Reach} {spare : Nat → Bool} {held : Bool} {v : Value} {d : DataW H} {ps : List MemPlace} (hval : Value.okWide Tryz.prog W r b0 24 v) (h : DataW.Trod enc Tryz.prog W base spare held 24 v d ps) :
    ∃ (N : Nat) (a : Option Addr) (es : List (Nat × Nat)) (c : Nat), v = .agg #[.int .u8 N, .slice a es.length c] ∧ N < 256 ∧ IsPairs W a es ∧ (∀ i, i < es.length → (edge es i).1 < 256 ∧ (edge es i).2 < 256) ∧ es.length ≤ maxLen := by
  obtain ⟨cs, rfl, hcs⟩ := okWide_struct Tryz.underlying24 hval
  obtain ⟨fuel, hf⟩ := h
  obtain ⟨xs, n, _, _, hl, hxs, hj⟩ := DataW.trod_struct Tryz.underlying24 hf
  have hx2 : xs.length = 2 := hxs
  have j0 := hj 0 _ rfl
  have j1 := hj 1 _ rfl
  rw [List.getElem?_eq_getElem (by omega)] at j0 j1
  obtain ⟨x, ex, _, wx⟩ := DataW.trod_int Tryz.underlying5 j0
  obtain ⟨a, es, c, ey, h1, h2, h3⟩ := open_pairs j1
  rw [cells_graph] at hcs
  have bx := byte_of_wf wx
  obtain ⟨p, q, hpq⟩ : ∃ p q, cs = #[p, q] := by
    match cs, hcs with
    | ⟨[p, q]⟩, _ => exact ⟨p, q, rfl⟩
  subst hpq
  change List.take (Tryz.prog.cellsOf 5) (List.drop 0 (Value.agg #[p, q]).cells.toList) = _ at ex
  change List.take (Tryz.prog.cellsOf 22) (List.drop 1 (Value.agg #[p, q]).cells.toList) = _ at ey
  rw [cells_u8] at ex
  rw [cells_pairs] at ey
  simp [Value.cells] at ex ey
  subst ex ey
  exact ⟨x.toNat, a, es, c, by simp; omega, by omega, h1, h2, h3⟩

def flagAt (w : World) (p : Addr) : Bool := match w.cell? p with | some (.bool b) => b | _ => false
theorem cells_bool : Tryz.prog.cellsOf 4 = 1 := by kernel_rfl
end Go.Proofs.YtedljgohmlilgaaGreat
/-
  More readings of a row's world: bytes, words, pairs of them, a trip.
-/
namespace Go.Proofs.YtedljgohmlilgaaGreat
open Go.RowKit Go.ChangeShapes Go.WideShapes Go.ChangeAt
set_option linter.unusedVariables false

/-- Bytes, as a slice shows them. -/
structure IsBytes (w : World) (a : Option Addr) (bs : List Nat) : Prop where
  cells : ∀ i, i < bs.length → ∃ b o, a = some ⟨b, o, none⟩ ∧ w.cell? ⟨b, o + i, none⟩ = some (.int .u8 (nat bs i))
theorem IsBytes.ext {w w' : World} {a : Option Addr} {bs : List Nat} (h : IsBytes w a bs) (k : Kept [] w w') : IsBytes w' a bs :=
  ⟨fun i hi => let ⟨b, o, ha, h1⟩ := h.cells i hi; ⟨b, o, ha, k.cell_some h1 (by simp)⟩⟩
/-- Words, as a slice shows them. -/
structure IsWords (w : World) (a : Option Addr) (zs : List Int) : Prop where
  cells : ∀ i, i < zs.length → ∃ b o, a = some ⟨b, o, none⟩ ∧ w.cell? ⟨b, o + i, none⟩ = some (.int .u64 (nth zs i))
theorem IsWords.ext {w w' : World} {a : Option Addr} {zs : List Int} (h : IsWords w a zs) (k : Kept [] w w') : IsWords w' a zs :=
  ⟨fun i hi => let ⟨b, o, ha, h1⟩ := h.cells i hi; ⟨b, o, ha, k.cell_some h1 (by simp)⟩⟩

theorem word_of_wf {x : Int} (h : (Lit.int .u64 x).wf = true) : 0 ≤ x ∧ x < 18446744073709551616 := by
  simp [Lit.wf, IntKind.min, IntKind.max, IntKind.signed, IntKind.bits] at h
  omega
theorem cells_u64 : Tryz.prog.cellsOf 57 = 1 := by kernel_rfl
def intAt (w : World) (p : Addr) : Int := match w.cell? p with | some (.int _ x) => x | _ => 0
theorem intAt_eq {w : World} {p : Addr} {k : IntKind} {x : Int} (h : w.cell? p = some (.int k x)) : intAt w p = x := by simp [intAt, h]

set_option maxHeartbeats 1000000 in
theorem open_bytes {H : Type} {enc : TypeId × Value → H} {W : World} {base fuel : Nat} {spare : Nat → Bool} {held : Bool} {cs : List Value} {x : DataW H × List MemPlace} (h : DataW.trod enc Tryz.prog W base spare held fuel 28 cs = some x) :
    ∃ a bs c, cs = [.slice a (List.length bs) c] ∧ IsBytes W a bs ∧ (∀ i, i < bs.length → nat bs i < 256) ∧ bs.length ≤ maxLen := by
  rcases DataW.trod_slice Tryz.underlying28 h with ⟨rfl, _⟩ | ⟨a, len, cap, elems, rest, n, _, rfl, _, _, hl, hc, _, hel, _⟩
  · exact ⟨none, [], 0, rfl, ⟨fun i hi => by simp at hi⟩, fun i hi => by simp at hi, by simp⟩
  · rw [cells_u8] at hel
    have key : ∀ i, i < len → ∃ x : Int, W.cell? (a.add i) = some (.int .u8 x) ∧ 0 ≤ x ∧ x < 256 := by
      intro i hi
      have he := hel i hi
      have hlt : i < elems.length := by omega
      rw [List.getElem?_eq_getElem hlt, Option.bind_eq_some_iff] at he
      obtain ⟨l, hl1, hl2⟩ := he
      obtain ⟨_, hlen, hcell⟩ := World.cells?_some hl1
      obtain ⟨x, ex, _, wx⟩ := DataW.trod_int Tryz.underlying5 hl2
      subst ex
      have c0 := hcell 0 (by omega)
      have bx := byte_of_wf wx
      exact ⟨x, by simpa [Addr.add] using c0, bx.1, bx.2⟩
    refine ⟨some a, (List.range len).map (fun i => natAt W (a.add i)), cap, by simp, ⟨fun i hi => ?_⟩, fun i hi => ?_, by simp; omega⟩
    · have hi' : i < len := by simpa using hi
      obtain ⟨x0, h0, _⟩ := key 0 (by omega)
      have hs : a.spot = none := spot_none (by simpa [Addr.add] using h0)
      obtain ⟨x, h1, b1, b2⟩ := key i hi'
      have hlit := addr_lit hs
      have e : nat ((List.range len).map (fun i => natAt W (a.add i))) i = x.toNat := by
        rw [nat_eq hi]; simp [natAt_eq h1]
      refine ⟨a.block, a.off, by rw [← hlit], ?_⟩
      rw [e]
      rw [hlit, add_lit] at h1
      rw [h1]; simp; omega
    · have hi' : i < len := by simpa using hi
      obtain ⟨x, h1, b1, b2⟩ := key i hi'
      rw [nat_eq hi]
      simp [natAt_eq h1]
      omega

set_option maxHeartbeats 1000000 in
theorem open_words {H : Type} {enc : TypeId × Value → H} {W : World} {base fuel : Nat} {spare : Nat → Bool} {held : Bool} {cs : List Value} {x : DataW H × List MemPlace} (h : DataW.trod enc Tryz.prog W base spare held fuel 47 cs = some x) :
    ∃ a zs c, cs = [.slice a (List.length zs) c] ∧ IsWords W a zs ∧ Words zs ∧ zs.length ≤ maxLen := by
  rcases DataW.trod_slice Tryz.underlying47 h with ⟨rfl, _⟩ | ⟨a, len, cap, elems, rest, n, _, rfl, _, _, hl, hc, _, hel, _⟩
  · exact ⟨none, [], 0, rfl, ⟨fun i hi => by simp at hi⟩, fun i => by simp [nth], by simp⟩
  · rw [cells_u64] at hel
    have key : ∀ i, i < len → ∃ x : Int, W.cell? (a.add i) = some (.int .u64 x) ∧ 0 ≤ x ∧ x < 18446744073709551616 := by
      intro i hi
      have he := hel i hi
      have hlt : i < elems.length := by omega
      rw [List.getElem?_eq_getElem hlt, Option.bind_eq_some_iff] at he
      obtain ⟨l, hl1, hl2⟩ := he
      obtain ⟨_, hlen, hcell⟩ := World.cells?_some hl1
      obtain ⟨x, ex, _, wx⟩ := DataW.trod_int Tryz.underlying57 hl2
      subst ex
      have c0 := hcell 0 (by omega)
      have bx := word_of_wf wx
      exact ⟨x, by simpa [Addr.add] using c0, bx.1, bx.2⟩
    have hv : ∀ i, i < len → ∀ x : Int, W.cell? (a.add i) = some (.int .u64 x) → nth ((List.range len).map (fun i => intAt W (a.add i))) i = x := by
      intro i hi x h1
      rw [nth_eq (by simpa using hi)]
      simp [intAt_eq h1]
    refine ⟨some a, (List.range len).map (fun i => intAt W (a.add i)), cap, by simp, ⟨fun i hi => ?_⟩, fun i => ?_, by simp; omega⟩
    · have hi' : i < len := by simpa using hi
      obtain ⟨x0, h0, _⟩ := key 0 (by omega)
      have hs : a.spot = none := spot_none (by simpa [Addr.add] using h0)
      obtain ⟨x, h1, b1, b2⟩ := key i hi'
      have hlit := addr_lit hs
      refine ⟨a.block, a.off, by rw [← hlit], ?_⟩
      rw [hv i hi' x h1]
      rw [hlit, add_lit] at h1
      exact h1
    · by_cases hi' : i < len
      · obtain ⟨x, h1, b1, b2⟩ := key i hi'
        rw [hv i hi' x h1]
        exact ⟨b1, b2⟩
      · simp [nth, hi']

theorem agg_two {cs : Array Value} (h : cs.size = 2) : ∃ p q, cs = #[p, q] := by
  match cs, h with
  | ⟨[p, q]⟩, _ => exact ⟨p, q, rfl⟩
theorem agg_four {cs : Array Value} (h : cs.size = 4) : ∃ p q r s, cs = #[p, q, r, s] := by
  match cs, h with
  | ⟨[p, q, r, s]⟩, _ => exact ⟨p, q, r, s, rfl⟩

theorem cells_u8s : Tryz.prog.cellsOf 28 = 1 := by kernel_rfl
theorem cells_u64s : Tryz.prog.cellsOf 47 = 1 := by kernel_rfl
theorem cells_Trip : Tryz.prog.cellsOf 30 = 4 := by kernel_rfl
set_option maxRecDepth 10000 in
set_option maxHeartbeats 1000000 in
/-- A trip, as a world shows it. -/
theorem open_trip {H : Type} {enc : TypeId × Value → H} {W : World} {base b0 : Nat} {r : Reach} {spare : Nat → Bool} {held : Bool} {v : Value} {d : DataW H} {ps : List MemPlace} (hval : Value.okWide Tryz.prog W r b0 30 v) (h : DataW.Trod enc Tryz.prog W base spare held 30 v d ps) :
    ∃ (M A : Nat) (a a2 : Option Addr) (bs ms : List Nat) (c c2 : Nat), v = .agg #[.int .u8 M, .int .u8 A, .slice a bs.length c, .slice a2 ms.length c2] ∧ M < 256 ∧ A < 256 ∧ IsBytes W a bs ∧ IsBytes W a2 ms ∧ (∀ i, i < bs.length → nat bs i < 256) ∧ (∀ i, i < ms.length → nat ms i < 256) ∧ bs.length ≤ maxLen ∧ ms.length ≤ maxLen := by
  obtain ⟨cs, rfl, hcs⟩ := okWide_struct Tryz.underlying30 hval
  obtain ⟨fuel, hf⟩ := h
  obtain ⟨xs, n, _, _, hl, hxs, hj⟩ := DataW.trod_struct Tryz.underlying30 hf
  have hx2 : xs.length = 4 := hxs
  have j0 := hj 0 _ rfl
  have j1 := hj 1 _ rfl
  have j2 := hj 2 _ rfl
  have j3 := hj 3 _ rfl
  rw [List.getElem?_eq_getElem (by omega)] at j0 j1 j2 j3
  obtain ⟨x, ex, _, wx⟩ := DataW.trod_int Tryz.underlying5 j0
  obtain ⟨y, ey, _, wy⟩ := DataW.trod_int Tryz.underlying5 j1
  obtain ⟨a, bs, c, e2, h1, h2, h3⟩ := open_bytes j2
  obtain ⟨a2, ms, c2, e3, k1, k2, k3⟩ := open_bytes j3
  rw [cells_Trip] at hcs
  have bx := byte_of_wf wx
  have by' := byte_of_wf wy
  obtain ⟨p, q, r, s, rfl⟩ := agg_four hcs
  change List.take (Tryz.prog.cellsOf 5) (List.drop 0 (Value.agg #[p, q, r, s]).cells.toList) = _ at ex
  change List.take (Tryz.prog.cellsOf 5) (List.drop 1 (Value.agg #[p, q, r, s]).cells.toList) = _ at ey
  change List.take (Tryz.prog.cellsOf 28) (List.drop 2 (Value.agg #[p, q, r, s]).cells.toList) = _ at e2
  change List.take (Tryz.prog.cellsOf 28) (List.drop 3 (Value.agg #[p, q, r, s]).cells.toList) = _ at e3
  rw [cells_u8] at ex ey
  rw [cells_u8s] at e2 e3
  simp [Value.cells] at ex ey e2 e3
  subst ex ey e2 e3
  exact ⟨x.toNat, y.toNat, a, a2, bs, ms, c, c2, by simp; omega, by omega, by omega, h1, k1, h2, k2, h3, k3⟩

theorem okWide_array {P : Program} {w : World} {r : Reach} {base : Nat} {t e : TypeId} {n : Nat} {v : Value} (ht : P.underlying t = some (.array n e)) (h : Value.okWide P w r base t v) : ∃ cs, v = .agg cs ∧ cs.size = P.cellsOf t := by
  simp only [Value.okWide, ht] at h
  obtain ⟨cs, h1, h2, _⟩ := h
  exact ⟨cs, h1, h2⟩
set_option maxRecDepth 10000 in
set_option maxHeartbeats 1000000 in
/-- Two bytes, as a world shows them. -/
theorem open_two {H : Type} {enc : TypeId × Value → H} {W : World} {base b0 : Nat} {r : Reach} {spare : Nat → Bool} {held : Bool} {v : Value} {d : DataW H} {ps : List MemPlace} (hval : Value.okWide Tryz.prog W r b0 58 v) (h : DataW.Trod enc Tryz.prog W base spare held 58 v d ps) :
    ∃ (x y : Nat), v = .agg #[.int .u8 x, .int .u8 y] ∧ x < 256 ∧ y < 256 := by
  obtain ⟨cs, rfl, hcs⟩ := okWide_array Tryz.underlying58 hval
  obtain ⟨fuel, hf⟩ := h
  obtain ⟨xs, m, _, _, _, hxs, hj⟩ := DataW.trod_array Tryz.underlying58 hf
  rw [cells_u8] at hj
  have j0 := hj 0 (by omega)
  have j1 := hj 1 (by omega)
  rw [List.getElem?_eq_getElem (by omega)] at j0 j1
  obtain ⟨x, ex, _, wx⟩ := DataW.trod_int Tryz.underlying5 j0
  obtain ⟨y, ey, _, wy⟩ := DataW.trod_int Tryz.underlying5 j1
  rw [cells_pair] at hcs
  have bx := byte_of_wf wx
  have by' := byte_of_wf wy
  obtain ⟨p, q, rfl⟩ := agg_two hcs
  simp [Value.cells] at ex ey
  subst ex ey
  exact ⟨x.toNat, y.toNat, by simp; omega, by omega, by omega⟩
set_option maxRecDepth 10000 in
set_option maxHeartbeats 1000000 in
theorem open_row {H : Type} {enc : TypeId × Value → H} {W : World} {base : Nat} {spare : Nat → Bool} {held : Bool} {v : Value} {d : DataW H} {ps : List MemPlace} {r : Reach} {b0 : Nat} (hval : Value.okWide Tryz.prog W r b0 47 v) (h : DataW.Trod enc Tryz.prog W base spare held 47 v d ps) :
    ∃ a zs c, v = .slice a (List.length zs) c ∧ IsWords W a zs ∧ Words zs := by
  obtain ⟨a0, l0, c0, rfl⟩ := okWide_slice Tryz.underlying47 hval
  obtain ⟨fuel, hf⟩ := h
  obtain ⟨a, zs, c, e, h1, h2, h3⟩ := open_words hf
  simp [Value.cells] at e
  obtain ⟨rfl, rfl, rfl⟩ := e
  exact ⟨_, zs, _, rfl, h1, h2⟩
end Go.Proofs.YtedljgohmlilgaaGreat
/-
  More readings of a row's world: a request, what is asked by numbers.
-/
namespace Go.Proofs.YtedljgohmlilgaaGreat
open Go.RowKit Go.ChangeShapes Go.WideShapes Go.ChangeAt
set_option linter.unusedVariables false

theorem cells_int : Tryz.prog.cellsOf 3 = 1 := by kernel_rfl
theorem cells_u16 : Tryz.prog.cellsOf 25 = 1 := by kernel_rfl
theorem cells_Request : Tryz.prog.cellsOf 45 = 4 := by kernel_rfl
theorem cells_Ask : Tryz.prog.cellsOf 27 = 4 := by kernel_rfl
theorem half_of_wf {x : Int} (h : (Lit.int .u16 x).wf = true) : 0 ≤ x ∧ x < 65536 := by
  simp [Lit.wf, IntKind.min, IntKind.max, IntKind.signed, IntKind.bits] at h
  omega
set_option maxRecDepth 10000 in
set_option maxHeartbeats 1000000 in
theorem open_request {H : Type} {enc : TypeId × Value → H} {W : World} {base b0 : Nat} {r : Reach} {spare : Nat → Bool} {held : Bool} {v : Value} {d : DataW H} {ps : List MemPlace} (hval : Value.okWide Tryz.prog W r b0 45 v) (h : DataW.Trod enc Tryz.prog W base spare held 45 v d ps) :
    ∃ (k g p n : Int), v = .agg #[.int .i64 k, .int .i64 g, .int .i64 p, .int .i64 n] ∧ True := by
  obtain ⟨cs, rfl, hcs⟩ := okWide_struct Tryz.underlying45 hval
  obtain ⟨fuel, hf⟩ := h
  obtain ⟨xs, n, _, _, hl, hxs, hj⟩ := DataW.trod_struct Tryz.underlying45 hf
  have hx2 : xs.length = 4 := hxs
  have j0 := hj 0 _ rfl
  have j1 := hj 1 _ rfl
  have j2 := hj 2 _ rfl
  have j3 := hj 3 _ rfl
  rw [List.getElem?_eq_getElem (by omega)] at j0 j1 j2 j3
  obtain ⟨x, ex, _, wx⟩ := DataW.trod_int Tryz.underlying3 j0
  obtain ⟨y, ey, _, wy⟩ := DataW.trod_int Tryz.underlying3 j1
  obtain ⟨z, ez, _, wz⟩ := DataW.trod_int Tryz.underlying3 j2
  obtain ⟨t, et, _, wt⟩ := DataW.trod_int Tryz.underlying3 j3
  rw [cells_Request] at hcs
  obtain ⟨p, q, r, s, rfl⟩ := agg_four hcs
  change List.take (Tryz.prog.cellsOf 3) (List.drop 0 (Value.agg #[p, q, r, s]).cells.toList) = _ at ex
  change List.take (Tryz.prog.cellsOf 3) (List.drop 1 (Value.agg #[p, q, r, s]).cells.toList) = _ at ey
  change List.take (Tryz.prog.cellsOf 3) (List.drop 2 (Value.agg #[p, q, r, s]).cells.toList) = _ at ez
  change List.take (Tryz.prog.cellsOf 3) (List.drop 3 (Value.agg #[p, q, r, s]).cells.toList) = _ at et
  rw [cells_int] at ex ey ez et
  simp [Value.cells] at ex ey ez et
  subst ex ey ez et
  exact ⟨x, y, z, t, rfl, trivial⟩
set_option maxRecDepth 10000 in
set_option maxHeartbeats 1000000 in
theorem open_ask {H : Type} {enc : TypeId × Value → H} {W : World} {base b0 : Nat} {r : Reach} {spare : Nat → Bool} {held : Bool} {v : Value} {d : DataW H} {ps : List MemPlace} (hval : Value.okWide Tryz.prog W r b0 27 v) (h : DataW.Trod enc Tryz.prog W base spare held 27 v d ps) :
    ∃ (K A P D : Nat), v = .agg #[.int .u8 K, .int .u8 A, .int .u8 P, .int .u16 D] ∧ K < 256 ∧ A < 256 ∧ P < 256 ∧ D < 65536 := by
  obtain ⟨cs, rfl, hcs⟩ := okWide_struct Tryz.underlying27 hval
  obtain ⟨fuel, hf⟩ := h
  obtain ⟨xs, n, _, _, hl, hxs, hj⟩ := DataW.trod_struct Tryz.underlying27 hf
  have hx2 : xs.length = 4 := hxs
  have j0 := hj 0 _ rfl
  have j1 := hj 1 _ rfl
  have j2 := hj 2 _ rfl
  have j3 := hj 3 _ rfl
  rw [List.getElem?_eq_getElem (by omega)] at j0 j1 j2 j3
  obtain ⟨x, ex, _, wx⟩ := DataW.trod_int Tryz.underlying5 j0
  obtain ⟨y, ey, _, wy⟩ := DataW.trod_int Tryz.underlying5 j1
  obtain ⟨z, ez, _, wz⟩ := DataW.trod_int Tryz.underlying5 j2
  obtain ⟨t, et, _, wt⟩ := DataW.trod_int Tryz.underlying25 j3
  rw [cells_Ask] at hcs
  have bx := byte_of_wf wx
  have by' := byte_of_wf wy
  have bz := byte_of_wf wz
  have bt := half_of_wf wt
  obtain ⟨p, q, r, s, rfl⟩ := agg_four hcs
  change List.take (Tryz.prog.cellsOf 5) (List.drop 0 (Value.agg #[p, q, r, s]).cells.toList) = _ at ex
  change List.take (Tryz.prog.cellsOf 5) (List.drop 1 (Value.agg #[p, q, r, s]).cells.toList) = _ at ey
  change List.take (Tryz.prog.cellsOf 5) (List.drop 2 (Value.agg #[p, q, r, s]).cells.toList) = _ at ez
  change List.take (Tryz.prog.cellsOf 25) (List.drop 3 (Value.agg #[p, q, r, s]).cells.toList) = _ at et
  rw [cells_u8] at ex ey ez
  rw [cells_u16] at et
  simp [Value.cells] at ex ey ez et
  subst ex ey ez et
  exact ⟨x.toNat, y.toNat, z.toNat, t.toNat, by simp; omega, by omega, by omega, by omega, by omega⟩
end Go.Proofs.YtedljgohmlilgaaGreat
