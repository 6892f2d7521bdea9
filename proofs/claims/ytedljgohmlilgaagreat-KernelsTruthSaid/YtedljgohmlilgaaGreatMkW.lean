/-
  The walk of shards.Make.
-/
import Derived.Test.YtedljgohmlilgaaGreatMkS
import Derived.Test.YtedljgohmlilgaaGreatParts
import Derived.RowKit3
import Derived.Deep.RegionHeld3
import Derived.Deep.AppendLies
import Derived.Deep.RegionWith
import Derived.Deep.DeepCutAuto
namespace Go.Proofs.YtedljgohmlilgaaGreat
open Go.RowKit
set_option linter.unusedVariables false
set_option linter.unusedSimpArgs false

theorem info_ints : (Tryz.prog.info? 37).map (fun i => (i.zero, i.size, i.bytes)) = some (some (.slice none 0 0), 1, 24) := by kernel_rfl
theorem info_int : (Tryz.prog.info? 3).map (fun i => (i.zero, i.size, i.bytes)) = some (some (.int .i64 0), 1, 8) := by kernel_rfl
theorem made_nils (n : Nat) : madeCells #[Value.slice none 0 0] n = (List.replicate n (Value.slice none 0 0)).toArray := by
  apply Array.ext
  · simp [madeCells]
  · intro i h1 h2
    simp [madeCells, Nat.mod_one]

set_option maxRecDepth 100000 in
set_option maxHeartbeats 1000000 in
theorem may_ok (fr te : Nat) (w : World) (h : fr < te) (h2 : te ≤ 256) :
    Calls Tryz.prog 26 #[.agg #[.int .i64 fr, .int .i64 te]] w fun e w' => e = .returned (.bool true) ∧ Kept [] w w' := by
  have d1 : decide ((0 : Int) ≤ fr) = true := by simp
  have d2 : decide (fr < te) = true := by simpa using h
  have d3 : decide ((te : Int) ≤ 256) = true := by simp; omega
  have hk : Kept [] w (w.alloc (.cells #[.int .i64 fr, .int .i64 te] 40)) := (Kept.refl _ _).alloc _
  go_enter Tryz.func26, Tryz.ntmps26
  go_wp2
  go_ret
  exact ⟨rfl, hk⟩

theorem frozen_ad (w : World) (c : Array Value) (t : TypeId) (a : Addr) : (w.alloc (.cells c t)).drew.frozen? a = w.frozen? a := Go.RowKit.frozen?_alloc_cells w c t a
theorem frozen_ad' (w : World) (c : Array Value) (t : TypeId) (a : Addr) : (w.alloc (.cells c t)).frozen? a = w.frozen? a := Go.RowKit.frozen?_alloc_cells w c t a

/-- A block of another type written. -/
theorem RowsAt.move {w w' : World} {E T bo B : Nat} {vals : List Value} {rows : List (List Nat)} (h : RowsAt w E T bo B vals rows) {rb : Nat} (k : Kept [rb] w w') {c : Array Value} {R : TypeId} (ho : w.heap[rb]? = some (.cells c R (0, 0))) (h1 : R ≠ E) (h2 : R ≠ T) : RowsAt w' E T bo B vals rows := by
  have hne : bo ≠ rb := by rintro rfl; have := h.obj; rw [ho] at this; simp at this; exact h2 this.2
  exact ⟨k.obj h.obj (by simpa using hne), h.len, fun i hi => ownsRow_kept (h.own i hi) k (fun j hj => by simp; rintro rfl; exact own_ne (h.own i hi) ho h1 hj), h.apart⟩

theorem RowsAt.outL {w : World} {E T bo B : Nat} {vals : List Value} {rows : List (List Nat)} (h : RowsAt w E T bo B vals rows) {L : List Nat} (hL : ∀ k ∈ L, k < B) (hb : B ≤ bo) : IsOut w L (some ⟨bo, 0, none⟩) rows := by
  refine ⟨fun i hi => ⟨bo, 0, rfl, fun hm => by have := hL _ hm; omega, ?_⟩⟩
  obtain ⟨a, c, hv, hc, hnone, hsome⟩ := ownsRow_slice (h.own i hi)
  refine ⟨a, c, by rw [Nat.zero_add, h.cell hi, hv], ⟨fun j hj => ?_⟩⟩
  cases a with
  | none => have := (hnone rfl).1; omega
  | some ad =>
    obtain ⟨g, rfl, hbg, _, hcell⟩ := hsome ad rfl
    exact ⟨g, 0, rfl, fun hm => by have := hL _ hm; omega, by rw [Nat.zero_add]; exact hcell _ _ (intCells_at hj)⟩

/-- What 'Make' has laid: the part's box, the shard's, the rows. -/
structure Laid (w : World) (pb sb bo B fr te : Nat) (vals : List Value) (rows : List (List Nat)) : Prop where
  part : w.heap[pb]? = some (.cells #[.int .i64 fr, .int .i64 te] 40 (0, 0))
  shard : w.heap[sb]? = some (.cells #[.int .i64 fr, .int .i64 te, .slice (some ⟨bo, 0, none⟩) rows.length rows.length] 43 (0, 0))
  rows : RowsAt w 3 37 bo B vals rows
theorem Laid.ext {w w' : World} {pb sb bo B fr te : Nat} {vals : List Value} {rows : List (List Nat)} (h : Laid w pb sb bo B fr te vals rows) (k : Kept [] w w') : Laid w' pb sb bo B fr te vals rows :=
  ⟨k.obj h.part (by simp), k.obj h.shard (by simp), h.rows.ext k⟩

theorem Laid.push {w w1 : World} {pb sb bo B fr te i v gg : Nat} {vals : List Value} {rows : List (List Nat)} {nv : Value} (h : Laid w pb sb bo B fr te vals rows) (hi : i < rows.length)
    (hg : w.grownBy w1 (val vals i).ownBlock) (hnv : nv.ownBlock = some gg) (hown : w1.ownsRow B 3 1 nv ((row rows i).length + 1) (intCells (row rows i) ++ [.int .i64 v])) (hat : (val vals i).ownBlock = some gg ∨ w.heap.size ≤ gg) :
    Laid (w1.setCell ⟨bo, i, none⟩ nv) pb sb bo B fr te (vals.set i nv) (rows.set i (row rows i ++ [v])) := by
  have hb := h.rows.obj
  have n1 : pb ≠ bo := by rintro rfl; have := h.part; rw [hb] at this; simp at this
  have n2 : sb ≠ bo := by rintro rfl; have := h.shard; rw [hb] at this; simp at this
  have o := h.rows.own i hi
  refine ⟨?_, ?_, h.rows.push (by decide) hi hg hnv hown hat⟩
  · rw [Below.heap_setCell _ _ _ _ n1]; exact grown_keeps hg h.part (own_ne o h.part (by decide))
  · rw [Below.heap_setCell _ _ _ _ n2, List.length_set]; exact grown_keeps hg h.shard (own_ne o h.shard (by decide))

theorem stay {w w1 : World} {k bo i : Nat} {c c2 : Array Value} {T T2 T3 : TypeId} {x : Value} {nv : Value} {row : Option Nat} (ho : w.heap[k]? = some (.cells c T (0, 0))) (hb : w.heap[bo]? = some (.cells c2 T2 (0, 0)))
    (hg : (w.alloc (.cells #[x] T3)).drew.grownBy w1 row) (hne : row ≠ some k) (hT : T ≠ T2 := by decide) :
    (w1.setCell ⟨bo, i, none⟩ nv).heap[k]? = some (.cells c T (0, 0)) := by
  have n1 : k ≠ bo := by rintro rfl; rw [ho] at hb; simp at hb; exact hT hb.2
  rw [Below.heap_setCell _ _ _ _ n1]; exact grown_keeps hg (obj_alloc_old ho _) hne

theorem setCell_same {w : World} {p : Addr} {v : Value} (h : w.cell? p = some v) : w.setCell p v = w := by
  have hh : (w.setCell p v).heap = w.heap := by
    apply Array.ext_getElem?
    intro k
    unfold World.cell? at h
    simp only [World.setCell, Array.getElem?_modify]
    split
    · rename_i hk
      subst hk
      revert h
      cases w.heap[p.block]? with
      | none => simp
      | some o =>
        cases o with
        | cells c e f =>
          simp only [Option.map_some, Option.some.injEq, Obj.cells.injEq, and_true]
          split
          · simp
          · intro h
            apply Array.ext_getElem?
            intro j
            rw [Array.getElem?_setIfInBounds]
            split
            · rename_i hj
              subst hj
              rw [h]
              have : p.off < c.size := (Array.getElem?_eq_some_iff.1 h).1
              simp [this]
            · rfl
        | _ => simp
    · rfl
  cases w
  simp only [World.setCell] at hh ⊢
  rw [hh]
/-- The world but for draws. -/
structure Drawn (w w' : World) : Prop where
  ex : ∃ m, w' = w.drewN m
theorem Drawn.first (w : World) : Drawn w w.drew := ⟨1, rfl⟩
theorem Drawn.more {w w' : World} (h : Drawn w w') (m : Nat) : Drawn w (w'.drewN m) := by
  obtain ⟨k, rfl⟩ := h.ex
  exact ⟨k + m, by simp [World.drewN, Nat.add_assoc]⟩
theorem Drawn.store {w w' : World} (h : Drawn w w') {p : Addr} {v : Value} (hc : w'.cell? p = some v) : Drawn w (w'.setCell p v) := by rw [setCell_same hc]; exact h
theorem Drawn.kept {w w' : World} (h : Drawn w w') : Kept [] w w' := by
  obtain ⟨k, rfl⟩ := h.ex
  exact (Kept.refl [] w).drewN k

/-- Behind the shard's making. -/
def Start (w : World) (pb B fr te n : Nat) (s : Value) (wx : World) : Prop :=
  ∃ sb bo, s = .pointer (some ⟨sb, 0, none⟩) ∧ Kept [] w wx ∧ w.heap.size ≤ sb ∧ w.heap.size ≤ bo ∧ Laid wx pb sb bo B fr te (List.replicate n (.slice none 0 0)) (List.replicate n [])

theorem start_of {w wx : World} {pb B fr te n sb bo : Nat} (hk : Kept [] w wx) (h1 : w.heap.size ≤ sb) (h2 : w.heap.size ≤ bo) (hp : w.heap[pb]? = some (.cells #[.int .i64 fr, .int .i64 te] 40 (0, 0)))
    (hs : wx.heap[sb]? = some (.cells #[.int .i64 fr, .int .i64 te, .slice (some ⟨bo, 0, none⟩) n n] 43 (0, 0))) (hb : wx.heap[bo]? = some (.cells (madeCells #[.slice none 0 0] n) 37 (0, 0))) :
    Start w pb B fr te n (.pointer (some ⟨sb, 0, none⟩)) wx := by
  refine ⟨sb, bo, rfl, hk, h1, h2, hk.obj hp (by simp), by simpa using hs, ?_⟩
  rw [made_nils] at hb
  exact RowsAt.new n hb

set_option maxRecDepth 100000 in
set_option maxHeartbeats 4000000 in
theorem Make_ok (B : Nat) (l : Value) (es : List (Nat × Nat)) (fr n : Nat) (w : World) (h : IsEdges w 59 B l es) (hn : 1 ≤ n) (hto : fr + n ≤ 256) (hs : ∀ u, (lead es u).Pairwise (· < ·)) (hl : es.length ≤ 1000) :
    Calls Tryz.prog 16 #[l, .agg #[.int .i64 fr, .int .i64 ((fr + n : Nat) : Int)]] w fun e w' => ∃ bo, e = .returned (.agg #[.int .i64 fr, .int .i64 ((fr + n : Nat) : Int), .slice (some ⟨bo, 0, none⟩) n n]) ∧ Kept [] w w' ∧ ∀ L, (∀ k ∈ L, k < w.heap.size) → IsOut w' L (some ⟨bo, 0, none⟩) (rowsOf es fr n) := by
  obtain ⟨te, hto'⟩ : ∃ te, te = fr + n := ⟨_, rfl⟩
  rw [← hto'] at hto ⊢
  have HS := hid hs; clear hs
  have HT := hid hto'; clear hto'
  obtain ⟨a, c, rfl, hc, hnone, hsome⟩ := h.slice
  go_enter Tryz.func16, Tryz.ntmps16
  go_wp2_with fail
  refine (may_ok fr te _ (by have := HT.out; omega) hto).mono ?_
  rintro e w1 ⟨rfl, hk1⟩
  have hk0 : Kept [] w ((w.alloc (.cells #[.int .i64 fr, .int .i64 te] 40)).alloc (.cells #[.int .i64 0, .int .i64 0, .slice none 0 0] 43)) := ((Kept.refl _ _).alloc _).alloc _
  have o1 : w1.heap[w.heap.size]? = some (.cells #[.int .i64 fr, .int .i64 te] 40 (0, 0)) := hk1.obj (obj_alloc_old (new_obj rfl) _) (by simp)
  have o2 : w1.heap[w.heap.size + 1]? = some (.cells #[.int .i64 0, .int .i64 0, .slice none 0 0] 43 (0, 0)) := hk1.obj (new_obj (by simp)) (by simp)
  have hkw := hid (hk0.trans hk1)
  clear hk0 hk1
  have c1 : w1.cell? ⟨w.heap.size, 0, none⟩ = some (.int .i64 fr) := cell_of_obj o1 0
  have c2 : w1.cell? ⟨w.heap.size, 1, none⟩ = some (.int .i64 te) := cell_of_obj o1 1
  have l1 : w.heap.size < w1.heap.size := obj_lt o1
  have O1 := hid o1
  have O2 := hid o2
  clear o1 o2
  have a1 : IntKind.i64.wrap ((te : Int) - fr) = n := by have := HT.out; rw [IntWalk.i64_in _ (by omega)]; omega
  have hmk := run_make_row' (P := Tryz.prog) 41 37 (.slice none 0 0) 24 Tryz.underlying41 info_ints rfl .i64 .i64 n (by have := HT.out; omega) (by have := HT.out; omega)
  go_wp2_with fail
  go_cut [5] (fun s wx => Start w1 w.heap.size w.heap.size fr te n s wx)
  case first =>
    go_region
    · go_wp2_with fail
      go_meet
      exact start_of (((Kept.refl [] w1).alloc _).alloc _).drew (by simp) (by simp) O1.out (new_obj (by simp)) (obj_alloc_old (new_obj rfl) _)
    · go_wp2_with fail
      go_meet
      exact start_of (((Kept.refl [] w1).alloc _).alloc _).drew (by simp) (by simp) O1.out (obj_alloc_old (new_obj rfl) _) (new_obj (by simp))
  case rest =>
    obtain ⟨sb, bo, rfl, hk2, hsb, hbo, hL⟩ := hcut
    have hkw2 := hid (hkw.out.trans hk2)
    have O2' := hid (hk2.obj O2.out (by simp))
    have HR0 := hid (show List.replicate n [] = rowsOf (es.take 0) fr n by rw [List.take_zero, rowsOf_nil])
    clear c1 c2 hk2 hmk O1 O2 a1
    go_wp2
    go_loopw [7, 24] (fun _ i wr => ∃ k vals, k ≤ es.length ∧ i = .int .i64 (k : Nat) ∧ Kept [] w wr ∧ Laid wr w.heap.size sb bo w.heap.size fr te vals (rowsOf (es.take k) fr n) ∧ wr.heap[w.heap.size + 1]? = some (.cells #[.int .i64 0, .int .i64 0, .slice none 0 0] 43 (0, 0))) (fun _ i _ => es.length - (intOf i).toNat)
    case atStart => exact ⟨0, _, Nat.zero_le _, rfl, hkw2.out, by rw [← HR0.out]; exact hL, O2'.out⟩
    case round =>
      obtain ⟨k, vals, hk, rfl, hK, hL, hr⟩ := hrel
      by_cases hlt : k < es.length
      · have hal : ∃ ad, a = some ad := by
          cases a with
          | none => have := hnone rfl; omega
          | some ad => exact ⟨ad, rfl⟩
        obtain ⟨ad, rfl⟩ := hal
        obtain ⟨g, rfl, hgb, hgl, hcell⟩ := hsome ad rfl
        have e1 := hK.cell_some (hcell _ _ (cellsOf_at es k hlt).1) (by simp)
        have e2 := hK.cell_some (hcell _ _ (cellsOf_at es k hlt).2) (by simp)
        obtain ⟨u, v, huv⟩ : ∃ u v, edge es k = (u, v) := ⟨_, _, rfl⟩
        rw [huv] at e1 e2
        have HUV := hid huv
        clear huv hcell
        have c1 : wr.cell? ⟨w.heap.size, 0, none⟩ = some (.int .i64 fr) := cell_of_obj hL.part 0
        have c2 : wr.cell? ⟨w.heap.size, 1, none⟩ = some (.int .i64 te) := cell_of_obj hL.part 1
        have l1 : w.heap.size < wr.heap.size := obj_lt hL.part
        have hKa := hid (hK.alloc (.cells #[.int .i64 u, .int .i64 v] 59))
        have hLa := hid (hL.ext ((Kept.refl [] wr).alloc (.cells #[.int .i64 u, .int .i64 v] 59)))
        have hra := hid (obj_alloc_old hr (.cells #[.int .i64 u, .int .i64 v] 59))
        have HT' := hid (show es.take (k + 1) = es.take k ++ [(u, v)] by rw [List.take_succ_eq_append_getElem hlt, ← edge_eq hlt, HUV.out])
        have HL := hid hL
        clear hL hr
        by_cases hin : fr ≤ u ∧ u < te
        · obtain ⟨i, hi⟩ : ∃ i, u = fr + i := ⟨u - fr, by omega⟩
          have hi2 : i < n := by have := HT.out; omega
          have d1 : decide (fr ≤ u) = true := by simpa using hin.1
          have d2 : decide (u < te) = true := by simpa using hin.2
          have a5 : IntKind.i64.wrap ((u : Int) - fr) = i := by rw [IntWalk.i64_in _ (by omega)]; omega
          have HI := hid hi
          have hrows := hLa.out.rows
          have hlen : (rowsOf (es.take k) fr n).length = n := rowsOf_length _ _ _
          have hown := hrows.own i (by rw [hlen]; exact hi2)
          have s1 : (wr.alloc (.cells #[.int .i64 u, .int .i64 v] 59)).cell? ⟨sb, 2, none⟩ = some (.slice (some ⟨bo, 0, none⟩) n n) := by rw [cell_of_obj hLa.out.shard, hlen]; rfl
          have s2 := hrows.cell (i := i) (by rw [hlen]; exact hi2)
          have s3 := hrows.free i
          have s4 : (wr.alloc (.cells #[.int .i64 u, .int .i64 v] 59)).cell? ⟨wr.heap.size, 0, none⟩ = some (.int .i64 u) := cell_of_obj (new_obj rfl) 0
          have s5 : (wr.alloc (.cells #[.int .i64 u, .int .i64 v] 59)).cell? ⟨wr.heap.size, 1, none⟩ = some (.int .i64 v) := cell_of_obj (new_obj rfl) 1
          have s6 : (wr.alloc (.cells #[.int .i64 u, .int .i64 v] 59)).cell? ⟨w.heap.size, 0, none⟩ = some (.int .i64 fr) := cell_of_obj hLa.out.part 0
          have s7 := obj_alloc_new wr (.cells #[.int .i64 u, .int .i64 v] 59)
          have n1 := own_ne hown hLa.out.shard (by decide)
          have n2 := own_ne hown s7 (by decide)
          have n3 := own_ne hown hLa.out.part (by decide)
          have n4 := own_ne hown hrows.obj (by decide)
          have hlead := lead_length (es.take k) (fr + i)
          have hrl : (row (rowsOf (es.take k) fr n) i).length ≤ 1000 := by
            rw [row_rowsOf _ _ _ _ hi2]
            simp at hlead; omega
          have b63 := hid (show (row (rowsOf (es.take k) fr n) i).length + 1 ≤ maxLen by unfold maxLen; omega)
          have bby := hid (show ((row (rowsOf (es.take k) fr n) i).length + 1) * 8 ≤ 140737488355328 by omega)
          clear hin hi hlen hlead hrl
          go_wp2_with fail
          have HLs := hid hLa.out.shard
          have HLo := hid hLa.out.rows.obj
          have HLp := hid hLa.out.part
          have HLe := hid s7
          generalize hW : wr.alloc (.cells #[.int .i64 u, .int .i64 v] 59) = W8 at *
          have l8 : wr.heap.size < W8.heap.size := by rw [← hW]; simp
          have l8b : w.heap.size < W8.heap.size := by omega
          have l8s : sb < W8.heap.size := World.block_lt_of_cell? _ _ s1
          have l8o : bo < W8.heap.size := World.block_lt_of_cell? _ _ s2
          clear hW s7
          have HR := hid hrows
          have HO := hid hown
          clear hrows hown
          obtain ⟨i0, hi0, hz0, hz1, hz2⟩ := info_parts info_int
          have m1 : sb ≠ bo := fun e => by have := HLs.out; rw [e, HLo.out] at this; simp at this
          have m2 : wr.heap.size ≠ bo := fun e => by have := HLe.out; rw [e, HLo.out] at this; simp at this
          have m3 : w.heap.size ≠ bo := fun e => by have := HLp.out; rw [e, HLo.out] at this; simp at this
          have m1' := Ne.symm m1
          have m2' := Ne.symm m2
          have m3' := Ne.symm m3
          have s2a : ∀ c t, (W8.alloc (.cells c t)).cell? ⟨bo, i, none⟩ = some (val vals i) := fun c t => by rw [World.cell?_alloc_lt _ _ _ l8o]; exact s2
          have s2d : ∀ c t, (W8.drew.alloc (.cells c t)).cell? ⟨bo, i, none⟩ = some (val vals i) := s2a
          refine wp_region_noPanic ?_
          refine wp_region_held_drew (S := (fun w' => w'.cell? ⟨sb, 2, none⟩ = some (.slice (some ⟨bo, 0, none⟩) n n) ∧ w'.cell? ⟨wr.heap.size, 0, none⟩ = some (.int .i64 u) ∧ w'.cell? ⟨wr.heap.size, 1, none⟩ = some (.int .i64 v) ∧ w'.cell? ⟨w.heap.size, 0, none⟩ = some (.int .i64 fr))) (by kernel_rfl) ?hS (fun hHeld => ?_)
          case hS => (simp [*, World.cell?_alloc_some, World.cell?_setCell_far])
          refine wpAnyH_take (i := 0) (v := ?v0) rfl (by kernel_rfl) (by kernel_rfl) (by kernel_rfl) (fun _ _ _ h => h) (Or.inl ⟨by rfl, ?hy0⟩) (by assumption) ?rest0
          case hy0 => (intro w hSw; (try dsimp only at hSw); go_simp <;> with_reducible rfl)
          (try simp only [Act.put, List.setIfInBounds_toArray, List.set_cons_zero, List.set_cons_succ])
          refine wpAnyH_take (i := 1) (v := ?v1) rfl (by kernel_rfl) (by kernel_rfl) (by kernel_rfl) (fun _ _ _ h => h) (Or.inl ⟨by rfl, ?hy1⟩) (by assumption) ?rest1
          case hy1 => (intro w hSw; (try dsimp only at hSw); go_simp <;> with_reducible rfl)
          (try simp only [Act.put, List.setIfInBounds_toArray, List.set_cons_zero, List.set_cons_succ])
          refine wpAnyH_take (i := 2) (v := ?v2) rfl (by kernel_rfl) (by kernel_rfl) (by kernel_rfl) (fun _ _ _ h => h) (Or.inl ⟨by rfl, ?hy2⟩) (by assumption) ?rest2
          case hy2 => (intro w hSw; (try dsimp only at hSw); go_simp <;> with_reducible rfl)
          (try simp only [Act.put, List.setIfInBounds_toArray, List.set_cons_zero, List.set_cons_succ])
          refine wpAnyH_take (i := 3) (v := ?v3) rfl (by kernel_rfl) (by kernel_rfl) (by kernel_rfl) (fun _ _ _ h => h) (Or.inl ⟨by rfl, ?hy3⟩) (by assumption) ?rest3
          case hy3 => (intro w hSw; (try dsimp only at hSw); go_simp <;> with_reducible rfl)
          (try simp only [Act.put, List.setIfInBounds_toArray, List.set_cons_zero, List.set_cons_succ])
          refine wpAnyH_take (i := 4) (v := ?v4) rfl (by kernel_rfl) (by kernel_rfl) (by kernel_rfl) (fun _ _ _ h => h) (Or.inl ⟨by rfl, ?hy4⟩) (by assumption) ?rest4
          case hy4 => (intro w hSw; (try dsimp only at hSw); go_simp <;> with_reducible rfl)
          (try simp only [Act.put, List.setIfInBounds_toArray, List.set_cons_zero, List.set_cons_succ])
          refine wpAnyH_take (i := 5) (v := ?v5) rfl (by kernel_rfl) (by kernel_rfl) (by kernel_rfl) (fun _ _ _ h => h) (Or.inl ⟨by rfl, ?hy5⟩) (by assumption) ?rest5
          case hy5 => (intro w hSw; (try dsimp only at hSw); go_simp <;> with_reducible rfl)
          (try simp only [Act.put, List.setIfInBounds_toArray, List.set_cons_zero, List.set_cons_succ])
          refine wpAnyH_take (i := 6) (v := ?v6) rfl (by kernel_rfl) (by kernel_rfl) (by kernel_rfl) (fun _ _ _ h => h) (Or.inl ⟨by rfl, ?hy6⟩) (by assumption) ?rest6
          case hy6 => (intro w hSw; (try dsimp only at hSw); go_simp <;> with_reducible rfl)
          (try simp only [Act.put, List.setIfInBounds_toArray, List.set_cons_zero, List.set_cons_succ])
          refine wpAnyH_take (i := 7) (v := ?v7) rfl (by kernel_rfl) (by kernel_rfl) (by kernel_rfl) (fun _ _ _ h => h) (Or.inl ⟨by rfl, ?hy7⟩) (by assumption) ?rest7
          case hy7 => (intro w hSw; (try dsimp only at hSw); go_simp <;> with_reducible rfl)
          (try simp only [Act.put, List.setIfInBounds_toArray, List.set_cons_zero, List.set_cons_succ])
          refine wpAnyH_take (i := 8) (v := ?v8) rfl (by kernel_rfl) (by kernel_rfl) (by kernel_rfl) (fun _ _ _ h => h) (Or.inl ⟨by rfl, ?hy8⟩) (by assumption) ?rest8
          case hy8 => (intro w hSw; (try dsimp only at hSw); go_simp <;> with_reducible rfl)
          (try simp only [Act.put, List.setIfInBounds_toArray, List.set_cons_zero, List.set_cons_succ])
          refine wpAnyH_take (i := 9) (v := ?v9) rfl (by kernel_rfl) (by kernel_rfl) (by kernel_rfl) (fun _ _ _ h => h) (Or.inl ⟨by rfl, ?hy9⟩) (by assumption) ?rest9
          case hy9 => (intro w hSw; (try dsimp only at hSw); go_simp <;> with_reducible rfl)
          (try simp only [Act.put, List.setIfInBounds_toArray, List.set_cons_zero, List.set_cons_succ])
          refine wpAnyH_take (i := 10) (v := ?v10) rfl (by kernel_rfl) (by kernel_rfl) (by kernel_rfl) (fun _ _ _ h => h) (Or.inl ⟨by rfl, ?hy10⟩) (by assumption) ?rest10
          case hy10 => (intro w hSw; (try dsimp only at hSw); go_simp <;> with_reducible rfl)
          (try simp only [Act.put, List.setIfInBounds_toArray, List.set_cons_zero, List.set_cons_succ])
          refine wpAnyH_take (i := 11) (v := ?v11) rfl (by kernel_rfl) (by kernel_rfl) (by kernel_rfl) (fun _ _ _ h => h) (Or.inl ⟨by rfl, ?hy11⟩) (by assumption) ?rest11
          case hy11 => (intro w hSw; (try dsimp only at hSw); go_simp <;> with_reducible rfl)
          (try simp only [Act.put, List.setIfInBounds_toArray, List.set_cons_zero, List.set_cons_succ])
          refine wpAnyH_take (i := 12) (v := ?v12) rfl (by kernel_rfl) (by kernel_rfl) (by kernel_rfl) (fun _ _ _ h => h) (Or.inl ⟨by rfl, ?hy12⟩) (by assumption) ?rest12
          case hy12 => (intro w hSw; (try dsimp only at hSw); go_simp <;> with_reducible rfl)
          (try simp only [Act.put, List.setIfInBounds_toArray, List.set_cons_zero, List.set_cons_succ])
          refine wpAnyH_take (i := 13) (v := ?v13) rfl (by kernel_rfl) (by kernel_rfl) (by kernel_rfl) (fun _ _ _ h => h) (Or.inl ⟨by rfl, ?hy13⟩) (by assumption) ?rest13
          case hy13 => (intro w hSw; (try dsimp only at hSw); go_simp <;> with_reducible rfl)
          (try simp only [Act.put, List.setIfInBounds_toArray, List.set_cons_zero, List.set_cons_succ])
          refine wpAnyH_take (i := 14) (v := ?v14) rfl (by kernel_rfl) (by kernel_rfl) (by kernel_rfl) (fun _ _ _ h => h) (Or.inl ⟨by rfl, ?hy14⟩) (by assumption) ?rest14
          case hy14 => (intro w hSw; (try dsimp only at hSw); go_simp <;> with_reducible rfl)
          (try simp only [Act.put, List.setIfInBounds_toArray, List.set_cons_zero, List.set_cons_succ])
          refine wpAnyH_take (i := 16) (v := ?v16) rfl (by kernel_rfl) (by kernel_rfl) (by kernel_rfl) (fun _ _ _ h => h) (Or.inl ⟨by rfl, ?hy16⟩) (by assumption) ?rest16
          case hy16 => (intro w hSw; (try dsimp only at hSw); go_simp <;> with_reducible rfl)
          (try simp only [Act.put, List.setIfInBounds_toArray, List.set_cons_zero, List.set_cons_succ])
          refine wpAnyH_take (i := 17) (v := ?v17) rfl (by kernel_rfl) (by kernel_rfl) (by kernel_rfl) (fun _ _ _ h => h) (Or.inl ⟨by rfl, ?hy17⟩) (by assumption) ?rest17
          case hy17 => (intro w hSw; (try dsimp only at hSw); go_simp <;> with_reducible rfl)
          (try simp only [Act.put, List.setIfInBounds_toArray, List.set_cons_zero, List.set_cons_succ])
          refine wpAnyH_ready (rs := [15, 18]) (by kernel_rfl) (by simp) (AllReadyH.cons rfl (fun K hK => ?_) (AllReadyH.cons rfl (fun K hK => ?_) AllReadyH.nil))
          · go_simp
            refine hK.out _ _ ?_ (fun hHeld => ?_)
            · try dsimp only
              (first
                | (simp [*, World.cell?_alloc_some, World.cell?_setCell_far]; done)
                | (go_split_ands
                   refine ⟨?_, ?_, ?_, ?_⟩
                   · (rw [hgrow.cell_far _ (by simp; omega) (Ne.symm n1)]; assumption)
                   · (rw [hgrow.cell_far _ (by simp; omega) (Ne.symm n2)]; assumption)
                   · (rw [hgrow.cell_far _ (by simp; omega) (Ne.symm n2)]; assumption)
                   · (rw [hgrow.cell_far _ (by simp; omega) (Ne.symm n3)]; assumption)))
            clear hK K
            (try simp only [Act.put, List.setIfInBounds_toArray, List.set_cons_zero, List.set_cons_succ])
            refine wpAnyH_ready (rs := [18]) (by kernel_rfl) (by simp) (AllReadyH.cons rfl (fun K hK => ?_) AllReadyH.nil)
            go_simp
            refine hK.out _ _ ?_ (fun hHeld => ?_)
            · try dsimp only
              (first
                | (simp [*, World.cell?_alloc_some, World.cell?_setCell_far]; done)
                | (go_split_ands
                   refine ⟨?_, ?_, ?_, ?_⟩
                   · (rw [hgrow.cell_far _ (by simp; omega) (Ne.symm n1)]; assumption)
                   · (rw [hgrow.cell_far _ (by simp; omega) (Ne.symm n2)]; assumption)
                   · (rw [hgrow.cell_far _ (by simp; omega) (Ne.symm n2)]; assumption)
                   · (rw [hgrow.cell_far _ (by simp; omega) (Ne.symm n3)]; assumption)))
            clear hK K
            (try simp only [Act.put, List.setIfInBounds_toArray, List.set_cons_zero, List.set_cons_succ])
            refine wpAnyH_ready (rs := [19]) (by kernel_rfl) (by simp) (AllReadyH.cons rfl (fun K hK => ?_) AllReadyH.nil)
            (refine step_append_lies _ (by rfl) _ _ _ (by rfl) w.heap.size 3 i0 _ 1 8 Tryz.underlying37 hi0 hz0 hz1 hz2 rfl (by omega) (val vals i) _ (intCells (row (rowsOf (es.take k) fr n) i)) (by rfl) ((HO.out.alloc _).drew) ⟨W8.heap.size, 0, none⟩ 1 1 [.int .i64 v] (by rfl) (by rfl) (World.news_of_block (cs := #[.int .i64 v]) (t := 3) (fr := (0, 0)) (heap_alloc_new W8 _)) (by simp [Value.oneCell']) (by omega) b63.out bby.out (by simp; omega) (W8.heap.size + 1) (by simp) ?_; intro gg cap w9 hown1 hgrow hat hlt9; have q1 : w9.cell? ⟨bo, i, none⟩ = some (val vals i) := (hgrow.cell_far ⟨bo, i, none⟩ (by simp; omega) (Ne.symm n4)).trans (s2a _ _); have q2 : w9.frozen? ⟨bo, i, none⟩ = false := (hgrow.frozen_far ⟨bo, i, none⟩ (by simp; omega) (Ne.symm n4)).trans ((frozen_ad _ _ _ _).trans s3))
            refine hK.out _ _ ?_ (fun hHeld => ?_)
            · try dsimp only
              (first
                | (simp [*, World.cell?_alloc_some, World.cell?_setCell_far]; done)
                | (go_split_ands
                   refine ⟨?_, ?_, ?_, ?_⟩
                   · (rw [hgrow.cell_far _ (by simp; omega) (Ne.symm n1)]; assumption)
                   · (rw [hgrow.cell_far _ (by simp; omega) (Ne.symm n2)]; assumption)
                   · (rw [hgrow.cell_far _ (by simp; omega) (Ne.symm n2)]; assumption)
                   · (rw [hgrow.cell_far _ (by simp; omega) (Ne.symm n3)]; assumption)))
            clear hK K
            (try simp only [Act.put, List.setIfInBounds_toArray, List.set_cons_zero, List.set_cons_succ])
            refine wpAnyH_take (i := 20) (v := ?v20a) rfl (by kernel_rfl) (by kernel_rfl) (by kernel_rfl) (fun _ _ _ h => h) (Or.inl ⟨by rfl, ?hy20a⟩) (by assumption) ?rest20a
            case hy20a => (intro w hSw; (try dsimp only at hSw); go_simp <;> with_reducible rfl)
            (try simp only [Act.put, List.setIfInBounds_toArray, List.set_cons_zero, List.set_cons_succ])
            refine wpAnyH_ready (rs := [21]) (by kernel_rfl) (by simp) (AllReadyH.cons rfl (fun K hK => ?_) AllReadyH.nil)
            go_simp
            refine hK.out _ _ ?_ (fun hHeld => ?_)
            · try dsimp only
              (first
                | (simp [*, World.cell?_alloc_some, World.cell?_setCell_far]; done)
                | (go_split_ands
                   refine ⟨?_, ?_, ?_, ?_⟩
                   · (rw [hgrow.cell_far _ (by simp; omega) (Ne.symm n1)]; assumption)
                   · (rw [hgrow.cell_far _ (by simp; omega) (Ne.symm n2)]; assumption)
                   · (rw [hgrow.cell_far _ (by simp; omega) (Ne.symm n2)]; assumption)
                   · (rw [hgrow.cell_far _ (by simp; omega) (Ne.symm n3)]; assumption)))
            clear hK K
            (try simp only [Act.put, List.setIfInBounds_toArray, List.set_cons_zero, List.set_cons_succ])
            refine wpAnyH_done (by kernel_rfl) ?_ _
            refine NoPanic.normal ?_
            have hfin := hid ((hLa.out.ext (((Kept.refl [] W8).alloc (.cells #[.int .i64 v] 3)).drew)).push (by rw [rowsOf_length]; exact hi2) hgrow rfl hown1 (by rcases hat with hh | hh; exact .inl hh; exact .inr (by rw [hh]; simp)))
            have hkf := hid (((hKa.out.alloc (.cells #[.int .i64 v] 3)).drew.grown hgrow (fun j hj => .inr (HO.out.lt j hj).1)).setCell (p := ⟨bo, i, none⟩) (.inr (by simp; omega)) (.slice (some ⟨gg, 0, none⟩) ((row (rowsOf (es.take k) fr n) i).length + 1) cap))
            have hrf := hid (stay hra.out HLo.out hgrow (own_ne HO.out hra.out (by decide)) (i := i) (nv := .slice (some ⟨gg, 0, none⟩) ((row (rowsOf (es.take k) fr n) i).length + 1) cap))
            go_wp2_with fail
            exact ⟨⟨k + 1, _, by omega, by go_num, hkf.out, by rw [HT'.out, HI.out, rowsOf_in _ _ _ _ _ hi2]; exact hfin.out, hrf.out⟩, by simp [intOf]; omega⟩
          · go_simp
            refine hK.out _ _ ?_ (fun hHeld => ?_)
            · try dsimp only
              (first
                | (simp [*, World.cell?_alloc_some, World.cell?_setCell_far]; done)
                | (go_split_ands
                   refine ⟨?_, ?_, ?_, ?_⟩
                   · (rw [hgrow.cell_far _ (by simp; omega) (Ne.symm n1)]; assumption)
                   · (rw [hgrow.cell_far _ (by simp; omega) (Ne.symm n2)]; assumption)
                   · (rw [hgrow.cell_far _ (by simp; omega) (Ne.symm n2)]; assumption)
                   · (rw [hgrow.cell_far _ (by simp; omega) (Ne.symm n3)]; assumption)))
            clear hK K
            (try simp only [Act.put, List.setIfInBounds_toArray, List.set_cons_zero, List.set_cons_succ])
            refine wpAnyH_ready (rs := [15]) (by kernel_rfl) (by simp) (AllReadyH.cons rfl (fun K hK => ?_) AllReadyH.nil)
            go_simp
            refine hK.out _ _ ?_ (fun hHeld => ?_)
            · try dsimp only
              (first
                | (simp [*, World.cell?_alloc_some, World.cell?_setCell_far]; done)
                | (go_split_ands
                   refine ⟨?_, ?_, ?_, ?_⟩
                   · (rw [hgrow.cell_far _ (by simp; omega) (Ne.symm n1)]; assumption)
                   · (rw [hgrow.cell_far _ (by simp; omega) (Ne.symm n2)]; assumption)
                   · (rw [hgrow.cell_far _ (by simp; omega) (Ne.symm n2)]; assumption)
                   · (rw [hgrow.cell_far _ (by simp; omega) (Ne.symm n3)]; assumption)))
            clear hK K
            (try simp only [Act.put, List.setIfInBounds_toArray, List.set_cons_zero, List.set_cons_succ])
            refine wpAnyH_ready (rs := [19]) (by kernel_rfl) (by simp) (AllReadyH.cons rfl (fun K hK => ?_) AllReadyH.nil)
            (refine step_append_lies _ (by rfl) _ _ _ (by rfl) w.heap.size 3 i0 _ 1 8 Tryz.underlying37 hi0 hz0 hz1 hz2 rfl (by omega) (val vals i) _ (intCells (row (rowsOf (es.take k) fr n) i)) (by rfl) ((HO.out.alloc _).drew) ⟨W8.heap.size, 0, none⟩ 1 1 [.int .i64 v] (by rfl) (by rfl) (World.news_of_block (cs := #[.int .i64 v]) (t := 3) (fr := (0, 0)) (heap_alloc_new W8 _)) (by simp [Value.oneCell']) (by omega) b63.out bby.out (by simp; omega) (W8.heap.size + 1) (by simp) ?_; intro gg cap w9 hown1 hgrow hat hlt9; have q1 : w9.cell? ⟨bo, i, none⟩ = some (val vals i) := (hgrow.cell_far ⟨bo, i, none⟩ (by simp; omega) (Ne.symm n4)).trans (s2a _ _); have q2 : w9.frozen? ⟨bo, i, none⟩ = false := (hgrow.frozen_far ⟨bo, i, none⟩ (by simp; omega) (Ne.symm n4)).trans ((frozen_ad _ _ _ _).trans s3))
            refine hK.out _ _ ?_ (fun hHeld => ?_)
            · try dsimp only
              (first
                | (simp [*, World.cell?_alloc_some, World.cell?_setCell_far]; done)
                | (go_split_ands
                   refine ⟨?_, ?_, ?_, ?_⟩
                   · (rw [hgrow.cell_far _ (by simp; omega) (Ne.symm n1)]; assumption)
                   · (rw [hgrow.cell_far _ (by simp; omega) (Ne.symm n2)]; assumption)
                   · (rw [hgrow.cell_far _ (by simp; omega) (Ne.symm n2)]; assumption)
                   · (rw [hgrow.cell_far _ (by simp; omega) (Ne.symm n3)]; assumption)))
            clear hK K
            (try simp only [Act.put, List.setIfInBounds_toArray, List.set_cons_zero, List.set_cons_succ])
            refine wpAnyH_take (i := 20) (v := ?v20b) rfl (by kernel_rfl) (by kernel_rfl) (by kernel_rfl) (fun _ _ _ h => h) (Or.inl ⟨by rfl, ?hy20b⟩) (by assumption) ?rest20b
            case hy20b => (intro w hSw; (try dsimp only at hSw); go_simp <;> with_reducible rfl)
            (try simp only [Act.put, List.setIfInBounds_toArray, List.set_cons_zero, List.set_cons_succ])
            refine wpAnyH_ready (rs := [21]) (by kernel_rfl) (by simp) (AllReadyH.cons rfl (fun K hK => ?_) AllReadyH.nil)
            go_simp
            refine hK.out _ _ ?_ (fun hHeld => ?_)
            · try dsimp only
              (first
                | (simp [*, World.cell?_alloc_some, World.cell?_setCell_far]; done)
                | (go_split_ands
                   refine ⟨?_, ?_, ?_, ?_⟩
                   · (rw [hgrow.cell_far _ (by simp; omega) (Ne.symm n1)]; assumption)
                   · (rw [hgrow.cell_far _ (by simp; omega) (Ne.symm n2)]; assumption)
                   · (rw [hgrow.cell_far _ (by simp; omega) (Ne.symm n2)]; assumption)
                   · (rw [hgrow.cell_far _ (by simp; omega) (Ne.symm n3)]; assumption)))
            clear hK K
            (try simp only [Act.put, List.setIfInBounds_toArray, List.set_cons_zero, List.set_cons_succ])
            refine wpAnyH_done (by kernel_rfl) ?_ _
            refine NoPanic.normal ?_
            have hfin := hid ((hLa.out.ext (((Kept.refl [] W8).alloc (.cells #[.int .i64 v] 3)).drew)).push (by rw [rowsOf_length]; exact hi2) hgrow rfl hown1 (by rcases hat with hh | hh; exact .inl hh; exact .inr (by rw [hh]; simp)))
            have hkf := hid (((hKa.out.alloc (.cells #[.int .i64 v] 3)).drew.grown hgrow (fun j hj => .inr (HO.out.lt j hj).1)).setCell (p := ⟨bo, i, none⟩) (.inr (by simp; omega)) (.slice (some ⟨gg, 0, none⟩) ((row (rowsOf (es.take k) fr n) i).length + 1) cap))
            have hrf := hid (stay hra.out HLo.out hgrow (own_ne HO.out hra.out (by decide)) (i := i) (nv := .slice (some ⟨gg, 0, none⟩) ((row (rowsOf (es.take k) fr n) i).length + 1) cap))
            go_wp2_with fail
            exact ⟨⟨k + 1, _, by omega, by go_num, hkf.out, by rw [HT'.out, HI.out, rowsOf_in _ _ _ _ _ hi2]; exact hfin.out, hrf.out⟩, by simp [intOf]; omega⟩
        · have H2 := hid (show rowsOf (es.take (k + 1)) fr n = rowsOf (es.take k) fr n by rw [HT'.out]; exact rowsOf_out _ _ _ _ (by have := HT.out; simp; omega))
          by_cases h1 : fr ≤ u
          · have d1 : decide (fr ≤ u) = true := by simpa using h1
            have d2 : decide (u < te) = false := by simp; omega
            clear hin h1
            go_wp2
            exact ⟨⟨k + 1, vals, by omega, by go_num, hKa.out, by rw [H2.out]; exact hLa.out, hra.out⟩, by simp [intOf]; omega⟩
          · have d1 : decide (fr ≤ u) = false := by simp; omega
            clear hin h1
            go_wp2
            exact ⟨⟨k + 1, vals, by omega, by go_num, hKa.out, by rw [H2.out]; exact hLa.out, hra.out⟩, by simp [intOf]; omega⟩
      · have hke : k = es.length := by omega
        subst hke
        rw [List.take_length] at hL
        have hKw := hid hK
        have HLx := hid hL
        have HRx := hid hr
        have s1 : wr.cell? ⟨sb, 2, none⟩ = some (.slice (some ⟨bo, 0, none⟩) n n) := by rw [cell_of_obj hL.shard, rowsOf_length]; rfl
        clear hK hL hr hsome hnone
        go_wp2_with fail
        go_loopw [8, 9, 65] (fun _ _ i wr => ∃ k vals, k ≤ n ∧ i = .int .i64 (k : Nat) ∧ Kept [] w wr ∧ Laid wr w.heap.size sb bo w.heap.size fr te vals (rowsOf es fr n) ∧ wr.heap[w.heap.size + 1]? = some (.cells #[.int .i64 0, .int .i64 0, .slice none 0 0] 43 (0, 0))) (fun _ _ i _ => n - (intOf i).toNat)
        case atStart => exact ⟨0, vals, Nat.zero_le _, rfl, hKw.out, HLx.out, HRx.out⟩
        case round =>
          obtain ⟨k, vals, hk, rfl, hK, hL, hr⟩ := hrel
          have hn2 : n ≤ 256 := by have := HT.out; omega
          have hn2 : n ≤ 256 := by have := HT.out; omega
          have hn2 : n ≤ 256 := by have := HT.out; omega
          have hn2 : n ≤ 256 := by have := HT.out; omega
          by_cases hlt : k < n
          · have hown := hL.rows.own k (by rw [rowsOf_length]; exact hlt)
            rw [row_rowsOf _ _ _ _ hlt] at hown
            have s1 : wr.cell? ⟨sb, 2, none⟩ = some (.slice (some ⟨bo, 0, none⟩) n n) := by rw [cell_of_obj hL.shard, rowsOf_length]; rfl
            have s2 := hL.rows.cell (i := k) (by rw [rowsOf_length]; exact hlt)
            obtain ⟨a2, cc2, hv, -, -, -⟩ := ownsRow_slice hown
            rw [hv] at hown s2
            have HV := hid hv
            clear hv
            have hle : (lead es (fr + k)).length ≤ 1000000 := by have := lead_length es (fr + k); omega
            have hwf := HS.out (fr + k)
            have HK := hid hK
            have HL := hid hL
            have HR := hid hr
            have HO := hid hown
            clear hK hL hr hown
            go_wp2_with fail
            refine (Sort_ok w.heap.size (.slice a2 (lead es (fr + k)).length cc2) _ _ HO.out hwf hle).mono ?_
            rintro e w5 ⟨rfl, hk5⟩
            have HK5 := hid (HK.out.trans hk5)
            have HL5 := hid (HL.out.ext hk5)
            have HR5 := hid (hk5.obj HR.out (by simp))
            have HO5 := hid (ownsRow_kept HO.out hk5 (by simp))
            have t1 := hk5.cell_some s1 (by simp)
            have t2 := hk5.cell_some s2 (by simp)
            have t3 := HL5.out.rows.free k
            have t2d : ∀ m, (w5.drewN m).cell? ⟨bo, k, none⟩ = some (.slice a2 (lead es (fr + k)).length cc2) := fun _ => t2
            have t3d : ∀ m, (w5.drewN m).frozen? ⟨bo, k, none⟩ = false := fun _ => t3
            clear hk5 s1 s2
            go_wp2_with fail
            go_region_held3 (fun w' => w'.cell? ⟨sb, 2, none⟩ = some (.slice (some ⟨bo, 0, none⟩) n n) ∧ w'.cell? ⟨bo, k, none⟩ = some (.slice a2 (lead es (fr + k)).length cc2) ∧ w'.frozen? ⟨bo, k, none⟩ = false ∧ Drawn w5 w')
              (first
                | (exact ⟨t1, t2, t3, Drawn.first _⟩)
                | (go_split_ands; refine ⟨by assumption, by assumption, by assumption, ?_⟩; first | exact ⟨⟨_, rfl⟩⟩ | exact Drawn.more (by assumption) _)
                | (go_split_ands; refine ⟨?_, ?_, ?_, Drawn.store (by assumption) (by assumption)⟩ <;> (rw [setCell_same (by assumption)]; assumption)))
              (first
                | (go_at_call 28; go_split_ands; refine (Compact_ok w.heap.size (.slice a2 (lead es (fr + k)).length cc2) (lead es (fr + k)) _ (ownsRow_kept HO5.out (Drawn.kept (by assumption)) (by simp)) hwf hle).mono ?_; rintro e w' ⟨rfl, m, rfl⟩))
            all_goals (
              rw [setCell_same (t2d _)]
              have HK6 := hid (HK5.out.drewN (1 + m))
              have HL6 := hid (HL5.out.ext ((Kept.refl [] w5).drewN (1 + m)))
              have HR6 := hid (((Kept.refl [] w5).drewN (1 + m)).obj HR5.out (by simp))
              go_wp2_with fail
              exact ⟨⟨k + 1, vals, by omega, by go_num, HK6.out, HL6.out, HR6.out⟩, by simp [intOf]; omega⟩)
          · have hke : n = k := by omega
            subst hke
            have o1 := hL.shard
            rw [rowsOf_length] at o1
            have q0 : wr.cell? ⟨sb, 0, none⟩ = some (.int .i64 fr) := cell_of_obj o1 0
            have q1 : wr.cell? ⟨sb, 1, none⟩ = some (.int .i64 te) := cell_of_obj o1 1
            have q2 : wr.cell? ⟨sb, 2, none⟩ = some (.slice (some ⟨bo, 0, none⟩) n n) := cell_of_obj o1 2
            have r0 : wr.cell? ⟨w.heap.size + 1, 0, none⟩ = some (.int .i64 0) := cell_of_obj hr 0
            have r1 : wr.cell? ⟨w.heap.size + 1, 1, none⟩ = some (.int .i64 0) := cell_of_obj hr 1
            have r2 : wr.cell? ⟨w.heap.size + 1, 2, none⟩ = some (.slice none 0 0) := cell_of_obj hr 2
            have hfz : ∀ i, wr.frozen? ⟨w.heap.size + 1, i, none⟩ = false := frozen_of_obj hr
            have HK := hid hK
            have HL := hid hL
            have HR := hid hr
            clear hK hL hr
            generalize hrb : w.heap.size + 1 = rb at *
            have hob := hid (obj_setCell (obj_setCell (obj_setCell HR.out 0 (.int .i64 fr)) 1 (.int .i64 te)) 2 (.slice (some ⟨bo, 0, none⟩) n n))
            have hkz := hid (((HK.out.setCell (p := ⟨rb, 0, none⟩) (.inr (by simp; omega)) (.int .i64 fr)).setCell (p := ⟨rb, 1, none⟩) (.inr (by simp; omega)) (.int .i64 te)).setCell (p := ⟨rb, 2, none⟩) (.inr (by simp; omega)) (.slice (some ⟨bo, 0, none⟩) n n))
            have hne : rb ≠ bo := fun e => by have h1 := HR.out; rw [e, HL.out.rows.obj] at h1; simp at h1
            have hou := hid (HL.out.rows.move (show Kept [rb] wr _ from (((Kept.refl [rb] wr).setCell (p := ⟨rb, 0, none⟩) (.inl (by simp)) (.int .i64 fr)).setCell (p := ⟨rb, 1, none⟩) (.inl (by simp)) (.int .i64 te)).setCell (p := ⟨rb, 2, none⟩) (.inl (by simp)) (.slice (some ⟨bo, 0, none⟩) n n)) HR.out (by decide) (by decide))
            go_wp2_with fail
            have g0 := cell_of_obj hob.out 0
            have g1 := cell_of_obj hob.out 1
            have g2 := cell_of_obj hob.out 2
            simp at g0 g1 g2
            have hbb : w.heap.size ≤ bo := by omega
            exact bodyPost_ret (v := .agg #[.int .i64 fr, .int .i64 te, .slice (some ⟨bo, 0, none⟩) n n]) (by simp [results, Tryz.results16, go_sem, g0, g1, g2]) rfl ⟨bo, rfl, hkz.out, fun L hL => hou.out.outL hL hbb⟩
end Go.Proofs.YtedljgohmlilgaaGreat
