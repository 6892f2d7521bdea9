/-
  The walk of carousellaw19.LabelsTurned.
-/
import Derived.Test.YtedljgohmlilgaaLow
import Derived.Test.YtedljgohmlilgaaPlR
import Derived.Test.YtedljgohmlilgaaEndL
import Derived.Test.YtedljgohmlilgaaLabD
import Derived.Test.YtedljgohmlilgaaLabT
import Derived.Test.YtedljgohmlilgaaLabB
import Derived.Test.YtedljgohmlilgaaOrdW
namespace Go.Proofs.Ytedljgohmlilgaa
open Go.RowKit
set_option linter.unusedVariables false

/-- Pairs turned round. -/
def turned (ps : List (Nat × Nat)) : List (Nat × Nat) := ps.map fun e => (e.2, e.1)
theorem turned_length (ps : List (Nat × Nat)) : (turned ps).length = ps.length := by simp [turned]
theorem edge_turned {ps : List (Nat × Nat)} {i : Nat} (h : i < ps.length) : edge (turned ps) i = ((edge ps i).2, (edge ps i).1) := by
  rw [edge_eq (by rw [turned_length]; exact h), edge_eq h]; simp [turned]
theorem turned_take {ps : List (Nat × Nat)} {i : Nat} (h : i < ps.length) : (turned ps).take (i + 1) = (turned ps).take i ++ [((edge ps i).2, (edge ps i).1)] := by
  rw [List.take_succ_eq_append_getElem (by rw [turned_length]; exact h), ← edge_eq, edge_turned h]
/-- Pairs of bytes, as cells. -/
def bcells (es : List (Nat × Nat)) : List Value := es.flatMap fun e => [.int .u8 e.1, .int .u8 e.2]
theorem bcells_length (es : List (Nat × Nat)) : (bcells es).length = es.length * 2 := by
  induction es with
  | nil => rfl
  | cons e es ih => simp [bcells, List.flatMap_cons] at ih ⊢; omega
theorem bcells_append (es fs : List (Nat × Nat)) : bcells (es ++ fs) = bcells es ++ bcells fs := by simp [bcells]
theorem bcells_at (es : List (Nat × Nat)) (i : Nat) (h : i < es.length) : (bcells es)[i * 2]? = some (.int .u8 (edge es i).1) ∧ (bcells es)[i * 2 + 1]? = some (.int .u8 (edge es i).2) := by
  induction es generalizing i with
  | nil => simp at h
  | cons e es ih =>
    cases i with
    | zero => simp [bcells, List.flatMap_cons, edge]
    | succ i =>
      have := ih i (by simpa using h)
      have e1 : (bcells (e :: es)) = [.int .u8 e.1, .int .u8 e.2] ++ bcells es := by simp [bcells, List.flatMap_cons]
      rw [e1, List.getElem?_append_right (by simp; omega), List.getElem?_append_right (by simp; omega)]
      have e2 : edge (e :: es) (i + 1) = edge es i := by simp [edge]
      rw [e2]
      simpa [show (i + 1) * 2 - 2 = i * 2 by omega, show (i + 1) * 2 + 1 - 2 = i * 2 + 1 by omega] using this
theorem told_turned {n a b : Nat} {ps : List (Nat × Nat)} : (a, b) ∈ told n ps ↔ (b, a) ∈ told n (turned ps) := by
  unfold told turned
  rw [List.mem_filterMap, List.filterMap_map, List.mem_filterMap]
  constructor
  · rintro ⟨p, hp, e⟩
    refine ⟨p, hp, ?_⟩
    split at e
    · simp at e
    · rename_i hne
      simp only [Option.some.injEq, Prod.mk.injEq] at e
      simp only [Function.comp]
      rw [if_neg (fun q => hne q.symm)]
      simp [e.1, e.2]
  · rintro ⟨p, hp, e⟩
    refine ⟨p, hp, ?_⟩
    simp only [Function.comp] at e
    split at e
    · simp at e
    · rename_i hne
      simp only [Option.some.injEq, Prod.mk.injEq] at e
      rw [if_neg (fun q => hne q.symm)]
      simp [e.1, e.2]
theorem norm_turned {n : Nat} {ps : List (Nat × Nat)} (a b : Nat) : (a, b) ∈ normE (told n ps) ↔ (b, a) ∈ normE (told n (turned ps)) := by
  rw [mem_normE, mem_normE]; exact told_turned
theorem info_u8x2 : (Try.prog.info? 58).map (fun i => (i.zero, i.size, i.bytes)) = some (some (.agg #[.int .u8 0, .int .u8 0]), 2, 2) := by kernel_rfl
theorem pairs_of_own {w : World} {B n : Nat} {v : Value} {es : List (Nat × Nat)} (h : w.ownsRow B 58 2 v n (bcells es)) (hn : es.length = n) : ∃ a c, v = .slice a n c ∧ IsPairs w a es := by
  subst hn
  obtain ⟨a, c, rfl, hc, hnone, hs⟩ := ownsRow_slice h
  refine ⟨a, c, rfl, ⟨fun i hi => ?_⟩⟩
  cases a with
  | none => have := (hnone rfl).1; omega
  | some ad =>
    obtain ⟨g, rfl, _, _, hcell⟩ := hs ad rfl
    have := bcells_at es i hi
    exact ⟨g, 0, rfl, by rw [Nat.zero_add]; exact hcell _ _ this.1, by rw [Nat.zero_add]; exact hcell _ _ this.2⟩

set_option linter.unusedSimpArgs false
set_option maxRecDepth 100000 in
set_option maxHeartbeats 16000000 in
theorem LabelsTurned_main (N many : Nat) (a : Option Addr) (c : Nat) (ps : List (Nat × Nat)) (w : World) (h : IsPairs w a ps) (hN : N < 256) (hm : many < 256)
    (hps : ∀ i, i < ps.length → (edge ps i).1 < 256 ∧ (edge ps i).2 < 256) (h1 : ps.length ≤ 300) :
    Calls Try.prog 6 #[.agg #[.int .u8 N, .slice a ps.length c], .int .u8 many] w fun e w' => e = .returned (.bool true) ∧ Kept [] w w' := by
  have d1' : decide ((300 : Int) < ps.length) = false := by simp; omega
  have HG := hid (graphy N ps h1)
  have HPS := hid hps; clear hps
  have gc' := hid (fun (w' : World) (k : Kept [] (w.alloc (.cells #[.int .u8 N, .slice a ps.length c] 24)) w') => (show w'.cell? ⟨w.heap.size, 0, none⟩ = some (.int .u8 N) ∧ w'.cell? ⟨w.heap.size, 1, none⟩ = some (.slice a ps.length c) from by
    have ho : (w.alloc (.cells #[.int .u8 N, .slice a ps.length c] 24)).heap[w.heap.size]? = some (.cells #[.int .u8 N, .slice a ps.length c] 24 (0, 0)) := new_obj rfl
    have ho2 := k.obj ho (by simp)
    exact ⟨by rw [cell_of_obj ho2]; rfl, by rw [cell_of_obj ho2]; rfl⟩))
  go_enter Try.func6, Try.ntmps6
  go_wp2_with fail
  have kb : Kept [] w (w.alloc (.cells #[.int .u8 N, .slice a ps.length c] 24)) := (Kept.refl _ _).alloc _
  refine (Made_ok N a c ps _ (h.ext kb) hN HPS.out h1).mono ?_
  obtain ⟨n, hn⟩ : ∃ n, n = 1 + N % 60 := ⟨_, rfl⟩
  obtain ⟨es, hes⟩ : ∃ es, es = normE (told n ps) := ⟨_, rfl⟩
  have HNN := hid hn
  rw [← hn] at HG ⊢
  have HES := hid hes
  rw [← hes] at HG ⊢
  rintro e w1 ⟨v1, rfl, hk1, he1⟩
  have K1 := hid (kb.trans hk1)
  obtain ⟨ea, ec, rfl, hec, hen, hesm⟩ := he1.slice
  have E1 := hid he1
  have ES := hid hesm
  have KB := hid hk1
  have EN := hid hen
  clear hesm hen
  clear hk1 he1 hn hes kb
  have n1 := HG.out.n1
  have n60 := HG.out.n60
  have el := HG.out.len
  have GC := hid (fun (w' : World) (k : Kept [] w1 w') => gc'.out w' (KB.out.trans k))
  obtain ⟨b0, b1⟩ := GC.out _ (Kept.refl _ _)
  obtain ⟨hb, hhb⟩ : ∃ hb, hb = w1.heap.size := ⟨_, rfl⟩
  have oh := hid (new_obj hhb : (w1.alloc (.cells #[.int .u8 N, .slice none 0 0] 24)).heap[hb]? = some (.cells #[.int .u8 N, .slice none 0 0] 24 (0, 0)))
  have kh := hid ((Kept.refl [] w1).alloc (.cells #[.int .u8 N, .slice none 0 0] 24))
  go_wp2_with fail
  rw [← hhb]
  have HHB := hid hhb
  clear hhb b0 b1
  go_loopw [8] (fun i wr => ∃ k : Nat, ∃ v : Value, k ≤ ps.length ∧ i = .int .i64 k ∧ Kept [] w1 wr ∧ wr.heap[hb]? = some (.cells #[.int .u8 N, v] 24 (0, 0)) ∧ wr.ownsRow w1.heap.size 58 2 v k (bcells ((turned ps).take k))) (fun i _ => ps.length - (intOf i).toNat)
  case atStart => exact ⟨0, .slice none 0 0, Nat.zero_le _, rfl, kh.out, oh.out, World.ownsRow_nil _ _ _ _⟩
  case round =>
    obtain ⟨k, v, hk, rfl, hK, ho, hV⟩ := hrel
    have K := hid hK
    have O := hid ho
    have V := hid hV
    clear hK ho hV
    obtain ⟨b0, b1⟩ := GC.out _ K.out
    by_cases hlt : k < ps.length
    · obtain ⟨pb, po, rfl, x0, y0⟩ := h.cells k hlt
      have pbl : pb < w.heap.size := World.block_lt_of_cell? w _ x0
      replace x0 := (K1.out.trans K.out).cell_some x0 (by simp)
      replace y0 := (K1.out.trans K.out).cell_some y0 (by simp)
      have TT := hid (turned_take hlt)
      have hxy := HPS.out k hlt
      obtain ⟨x, hx⟩ : ∃ x, (edge ps k).1 = x := ⟨_, rfl⟩
      obtain ⟨y, hy⟩ : ∃ y, (edge ps k).2 = y := ⟨_, rfl⟩
      rw [hx] at x0 hxy TT
      rw [hy] at y0 hxy TT
      clear hx hy
      have v0 : wr.cell? ⟨hb, 1, none⟩ = some v := by rw [cell_of_obj O.out]; rfl
      have f0 := frozen_of_obj O.out 1
      have kp : (0 : Int) ≤ k := by omega
      have kl : (k : Int) < ps.length := by omega
      have l0 : w.heap.size < w1.heap.size := by have := KB.out.size; simp at this; omega
      have l1 : w1.heap.size ≤ wr.heap.size := K.out.size
      have hbl : hb < wr.heap.size := obj_lt O.out
      have hbe : w1.heap.size ≤ hb := by have := HHB.out; omega
      have n3 : v.ownBlock ≠ some hb := own_ne V.out O.out (by decide)
      have n1 : v.ownBlock ≠ some w.heap.size := fun e => by have := (V.out.lt _ e).1; omega
      have n2 : v.ownBlock ≠ some pb := fun e => by have := (V.out.lt _ e).1; omega
      have m1 : hb ≠ w.heap.size := by omega
      have m2 : hb ≠ pb := by omega
      have m1' := Ne.symm m1
      have m2' := Ne.symm m2
      obtain ⟨i0, hi0, hz0, hz1, hz2⟩ := info_parts info_u8x2
      have b63 := hid (show k + 1 ≤ maxLen by unfold maxLen; omega)
      have bby := hid (show (k + 1) * 2 ≤ 140737488355328 by omega)
      have v0a : ∀ c t, (wr.alloc (.cells c t)).cell? ⟨hb, 1, none⟩ = some v := fun c t => by rw [World.cell?_alloc_lt _ _ _ hbl]; exact v0
      have v0d : ∀ c t, (wr.drew.alloc (.cells c t)).cell? ⟨hb, 1, none⟩ = some v := v0a
      go_wp2_with fail
      refine wp_region_noPanic ?_
      refine wp_region_held_drew (S := (fun w' => w'.cell? ⟨w.heap.size, 1, none⟩ = some (.slice (some ⟨pb, po, none⟩) ps.length c) ∧ w'.cell? ⟨pb, po + k * 2, none⟩ = some (.int .u8 x) ∧ w'.cell? ⟨pb, po + k * 2 + 1, none⟩ = some (.int .u8 y))) (by kernel_rfl) ?hSr (fun hHeld => ?_)
      case hSr => (simp [*, World.cell?_alloc_some, World.cell?_setCell_far])
      refine wpAnyH_take (i := 0) (v := ?vr0) rfl (by kernel_rfl) (by kernel_rfl) (by kernel_rfl) (fun _ _ _ h => h) (Or.inl ⟨by rfl, ?hyr0⟩) (by assumption) ?restr0
      case hyr0 => (intro w hSw; (try dsimp only at hSw); go_simp <;> with_reducible rfl)
      (try simp only [Act.put, List.setIfInBounds_toArray, List.set_cons_zero, List.set_cons_succ])
      refine wpAnyH_take (i := 2) (v := ?vr2) rfl (by kernel_rfl) (by kernel_rfl) (by kernel_rfl) (fun _ _ _ h => h) (Or.inl ⟨by rfl, ?hyr2⟩) (by assumption) ?restr2
      case hyr2 => (intro w hSw; (try dsimp only at hSw); go_simp <;> with_reducible rfl)
      (try simp only [Act.put, List.setIfInBounds_toArray, List.set_cons_zero, List.set_cons_succ])
      refine wpAnyH_take (i := 3) (v := ?vr3) rfl (by kernel_rfl) (by kernel_rfl) (by kernel_rfl) (fun _ _ _ h => h) (Or.inl ⟨by rfl, ?hyr3⟩) (by assumption) ?restr3
      case hyr3 => (intro w hSw; (try dsimp only at hSw); go_simp <;> with_reducible rfl)
      (try simp only [Act.put, List.setIfInBounds_toArray, List.set_cons_zero, List.set_cons_succ])
      refine wpAnyH_take (i := 4) (v := ?vr4) rfl (by kernel_rfl) (by kernel_rfl) (by kernel_rfl) (fun _ _ _ h => h) (Or.inl ⟨by rfl, ?hyr4⟩) (by assumption) ?restr4
      case hyr4 => (intro w hSw; (try dsimp only at hSw); go_simp <;> with_reducible rfl)
      (try simp only [Act.put, List.setIfInBounds_toArray, List.set_cons_zero, List.set_cons_succ])
      refine wpAnyH_take (i := 5) (v := ?vr5) rfl (by kernel_rfl) (by kernel_rfl) (by kernel_rfl) (fun _ _ _ h => h) (Or.inl ⟨by rfl, ?hyr5⟩) (by assumption) ?restr5
      case hyr5 => (intro w hSw; (try dsimp only at hSw); go_simp <;> with_reducible rfl)
      (try simp only [Act.put, List.setIfInBounds_toArray, List.set_cons_zero, List.set_cons_succ])
      refine wpAnyH_take (i := 6) (v := ?vr6) rfl (by kernel_rfl) (by kernel_rfl) (by kernel_rfl) (fun _ _ _ h => h) (Or.inl ⟨by rfl, ?hyr6⟩) (by assumption) ?restr6
      case hyr6 => (intro w hSw; (try dsimp only at hSw); go_simp <;> with_reducible rfl)
      (try simp only [Act.put, List.setIfInBounds_toArray, List.set_cons_zero, List.set_cons_succ])
      refine wpAnyH_take (i := 7) (v := ?vr7) rfl (by kernel_rfl) (by kernel_rfl) (by kernel_rfl) (fun _ _ _ h => h) (Or.inl ⟨by rfl, ?hyr7⟩) (by assumption) ?restr7
      case hyr7 => (intro w hSw; (try dsimp only at hSw); go_simp <;> with_reducible rfl)
      (try simp only [Act.put, List.setIfInBounds_toArray, List.set_cons_zero, List.set_cons_succ])
      refine wpAnyH_take (i := 8) (v := ?vr8) rfl (by kernel_rfl) (by kernel_rfl) (by kernel_rfl) (fun _ _ _ h => h) (Or.inl ⟨by rfl, ?hyr8⟩) (by assumption) ?restr8
      case hyr8 => (intro w hSw; (try dsimp only at hSw); go_simp <;> with_reducible rfl)
      (try simp only [Act.put, List.setIfInBounds_toArray, List.set_cons_zero, List.set_cons_succ])
      refine wpAnyH_take (i := 9) (v := ?vr9) rfl (by kernel_rfl) (by kernel_rfl) (by kernel_rfl) (fun _ _ _ h => h) (Or.inl ⟨by rfl, ?hyr9⟩) (by assumption) ?restr9
      case hyr9 => (intro w hSw; (try dsimp only at hSw); go_simp <;> with_reducible rfl)
      (try simp only [Act.put, List.setIfInBounds_toArray, List.set_cons_zero, List.set_cons_succ])
      refine wpAnyH_take (i := 10) (v := ?vr10) rfl (by kernel_rfl) (by kernel_rfl) (by kernel_rfl) (fun _ _ _ h => h) (Or.inl ⟨by rfl, ?hyr10⟩) (by assumption) ?restr10
      case hyr10 => (intro w hSw; (try dsimp only at hSw); go_simp <;> with_reducible rfl)
      (try simp only [Act.put, List.setIfInBounds_toArray, List.set_cons_zero, List.set_cons_succ])
      refine wpAnyH_take (i := 11) (v := ?vr11) rfl (by kernel_rfl) (by kernel_rfl) (by kernel_rfl) (fun _ _ _ h => h) (Or.inl ⟨by rfl, ?hyr11⟩) (by assumption) ?restr11
      case hyr11 => (intro w hSw; (try dsimp only at hSw); go_simp <;> with_reducible rfl)
      (try simp only [Act.put, List.setIfInBounds_toArray, List.set_cons_zero, List.set_cons_succ])
      refine wpAnyH_take (i := 12) (v := ?vr12) rfl (by kernel_rfl) (by kernel_rfl) (by kernel_rfl) (fun _ _ _ h => h) (Or.inl ⟨by rfl, ?hyr12⟩) (by assumption) ?restr12
      case hyr12 => (intro w hSw; (try dsimp only at hSw); go_simp <;> with_reducible rfl)
      (try simp only [Act.put, List.setIfInBounds_toArray, List.set_cons_zero, List.set_cons_succ])
      refine wpAnyH_take (i := 13) (v := ?vr13) rfl (by kernel_rfl) (by kernel_rfl) (by kernel_rfl) (fun _ _ _ h => h) (Or.inl ⟨by rfl, ?hyr13⟩) (by assumption) ?restr13
      case hyr13 => (intro w hSw; (try dsimp only at hSw); go_simp <;> with_reducible rfl)
      (try simp only [Act.put, List.setIfInBounds_toArray, List.set_cons_zero, List.set_cons_succ])
      refine wpAnyH_take (i := 14) (v := ?vr14) rfl (by kernel_rfl) (by kernel_rfl) (by kernel_rfl) (fun _ _ _ h => h) (Or.inl ⟨by rfl, ?hyr14⟩) (by assumption) ?restr14
      case hyr14 => (intro w hSw; (try dsimp only at hSw); go_simp <;> with_reducible rfl)
      (try simp only [Act.put, List.setIfInBounds_toArray, List.set_cons_zero, List.set_cons_succ])
      refine wpAnyH_ready (rs := [1, 15]) (by kernel_rfl) (by simp) (AllReadyH.cons rfl (fun K hK => ?_) (AllReadyH.cons rfl (fun K hK => ?_) AllReadyH.nil))
      · go_simp
        refine hK.out _ _ ?_ (fun hHeld => ?_)
        · try dsimp only
          (first
            | (simp [*, World.cell?_alloc_some, World.cell?_setCell_far]; done)
            | (go_split_ands
               refine ⟨?_, ?_, ?_⟩
               · (rw [hg9.cell_far _ (by simp; omega) (Ne.symm n1)]; assumption)
               · (rw [hg9.cell_far _ (by simp; omega) (Ne.symm n2)]; assumption)
               · (rw [hg9.cell_far _ (by simp; omega) (Ne.symm n2)]; assumption)))
        clear hK K
        (try simp only [Act.put, List.setIfInBounds_toArray, List.set_cons_zero, List.set_cons_succ])
        refine wpAnyH_ready (rs := [15]) (by kernel_rfl) (by simp) (AllReadyH.cons rfl (fun K hK => ?_) AllReadyH.nil)
        go_simp
        refine hK.out _ _ ?_ (fun hHeld => ?_)
        · try dsimp only
          (first
            | (simp [*, World.cell?_alloc_some, World.cell?_setCell_far]; done)
            | (go_split_ands
               refine ⟨?_, ?_, ?_⟩
               · (rw [hg9.cell_far _ (by simp; omega) (Ne.symm n1)]; assumption)
               · (rw [hg9.cell_far _ (by simp; omega) (Ne.symm n2)]; assumption)
               · (rw [hg9.cell_far _ (by simp; omega) (Ne.symm n2)]; assumption)))
        clear hK K
        (try simp only [Act.put, List.setIfInBounds_toArray, List.set_cons_zero, List.set_cons_succ])
        refine wpAnyH_ready (rs := [16]) (by kernel_rfl) (by simp) (AllReadyH.cons rfl (fun K hK => ?_) AllReadyH.nil)
        (refine step_append_at _ (by rfl) _ _ _ (by rfl) w1.heap.size 58 i0 _ 2 2 Try.underlying22 hi0 hz0 hz1 hz2 rfl (by omega) v k (bcells ((turned ps).take k)) (by rfl) ((V.out.alloc _).drew) ⟨wr.heap.size, 0, none⟩ 1 1 [.int .u8 y, .int .u8 x] (by rfl) (by rfl) (World.news_of_block (cs := #[.int .u8 y, .int .u8 x]) (t := 58) (fr := (0, 0)) (heap_alloc_new wr _)) (by simp [Value.oneCell']) b63.out bby.out (by simp; omega) ?_; intro v9 w9 ho9 hg9 hat9; obtain ⟨g9, c9, rfl, hgb9, hgl9⟩ := World.ownsRow.form ho9 (by omega); have q1 : w9.cell? ⟨hb, 1, none⟩ = some v := (hg9.cell_far ⟨hb, 1, none⟩ (by simp; omega) (Ne.symm n3)).trans (v0a _ _); have q2 : w9.frozen? ⟨hb, 1, none⟩ = false := (hg9.frozen_far ⟨hb, 1, none⟩ (by simp; omega) (Ne.symm n3)).trans ((frozen_ad _ _ _ _).trans f0))
        refine hK.out _ _ ?_ (fun hHeld => ?_)
        · try dsimp only
          (first
            | (simp [*, World.cell?_alloc_some, World.cell?_setCell_far]; done)
            | (go_split_ands
               refine ⟨?_, ?_, ?_⟩
               · (rw [hg9.cell_far _ (by simp; omega) (Ne.symm n1)]; assumption)
               · (rw [hg9.cell_far _ (by simp; omega) (Ne.symm n2)]; assumption)
               · (rw [hg9.cell_far _ (by simp; omega) (Ne.symm n2)]; assumption)))
        clear hK K
        (try simp only [Act.put, List.setIfInBounds_toArray, List.set_cons_zero, List.set_cons_succ])
        refine wpAnyH_take (i := 17) (v := ?vr17a) rfl (by kernel_rfl) (by kernel_rfl) (by kernel_rfl) (fun _ _ _ h => h) (Or.inl ⟨by rfl, ?hyr17a⟩) (by assumption) ?restr17a
        case hyr17a => (intro w hSw; (try dsimp only at hSw); go_simp <;> with_reducible rfl)
        (try simp only [Act.put, List.setIfInBounds_toArray, List.set_cons_zero, List.set_cons_succ])
        refine wpAnyH_ready (rs := [18]) (by kernel_rfl) (by simp) (AllReadyH.cons rfl (fun K hK => ?_) AllReadyH.nil)
        go_simp
        refine hK.out _ _ ?_ (fun hHeld => ?_)
        · try dsimp only
          (first
            | (simp [*, World.cell?_alloc_some, World.cell?_setCell_far]; done)
            | (go_split_ands
               refine ⟨?_, ?_, ?_⟩
               · (rw [hg9.cell_far _ (by simp; omega) (Ne.symm n1)]; assumption)
               · (rw [hg9.cell_far _ (by simp; omega) (Ne.symm n2)]; assumption)
               · (rw [hg9.cell_far _ (by simp; omega) (Ne.symm n2)]; assumption)))
        clear hK K
        (try simp only [Act.put, List.setIfInBounds_toArray, List.set_cons_zero, List.set_cons_succ])
        refine wpAnyH_done (by kernel_rfl) ?_ _
        refine NoPanic.normal ?_
        have hK9 : Kept [] w1 w9 := (((K.out.alloc (.cells #[.int .u8 y, .int .u8 x] 58)).drew).grown hg9 (fun j e => .inr (V.out.lt j e).1))
        have hkf := hid (hK9.setCell (p := ⟨hb, 1, none⟩) (.inr (by have := HHB.out; simp; omega)) (.slice (some ⟨g9, 0, none⟩) (k + 1) c9))
        have hof := hid (obj_setCell (grown_keeps hg9 (obj_alloc_old O.out _ : ((wr.alloc (.cells #[.int .u8 y, .int .u8 x] 58)).drew).heap[hb]? = _) n3) 1 (.slice (some ⟨g9, 0, none⟩) (k + 1) c9))
        have hvf := hid (show (w9.setCell ⟨hb, 1, none⟩ (.slice (some ⟨g9, 0, none⟩) (k + 1) c9)).ownsRow w1.heap.size 58 2 (.slice (some ⟨g9, 0, none⟩) (k + 1) c9) (k + 1) (bcells ((turned ps).take (k + 1))) by
          rw [TT.out, bcells_append]
          refine ownsRow_kept ho9 ((Kept.refl [hb] w9).setCell (p := ⟨hb, 1, none⟩) (.inl (by simp)) (.slice (some ⟨g9, 0, none⟩) (k + 1) c9)) (fun j hj => ?_)
          rcases hat9 with e | e
          · rw [e] at hj; simp only [List.mem_singleton]; rintro rfl; exact n3 hj
          · rw [e] at hj; simp at hj; simp; omega)
        clear ho9 hg9 hat9 hK9
        go_wp2_with fail
        exact ⟨⟨k + 1, .slice (some ⟨g9, 0, none⟩) (k + 1) c9, by omega, by go_num, hkf.out, hof.out, hvf.out⟩, by simp [intOf]; omega⟩
      · go_simp
        refine hK.out _ _ ?_ (fun hHeld => ?_)
        · try dsimp only
          (first
            | (simp [*, World.cell?_alloc_some, World.cell?_setCell_far]; done)
            | (go_split_ands
               refine ⟨?_, ?_, ?_⟩
               · (rw [hg9.cell_far _ (by simp; omega) (Ne.symm n1)]; assumption)
               · (rw [hg9.cell_far _ (by simp; omega) (Ne.symm n2)]; assumption)
               · (rw [hg9.cell_far _ (by simp; omega) (Ne.symm n2)]; assumption)))
        clear hK K
        (try simp only [Act.put, List.setIfInBounds_toArray, List.set_cons_zero, List.set_cons_succ])
        refine wpAnyH_ready (rs := [1]) (by kernel_rfl) (by simp) (AllReadyH.cons rfl (fun K hK => ?_) AllReadyH.nil)
        go_simp
        refine hK.out _ _ ?_ (fun hHeld => ?_)
        · try dsimp only
          (first
            | (simp [*, World.cell?_alloc_some, World.cell?_setCell_far]; done)
            | (go_split_ands
               refine ⟨?_, ?_, ?_⟩
               · (rw [hg9.cell_far _ (by simp; omega) (Ne.symm n1)]; assumption)
               · (rw [hg9.cell_far _ (by simp; omega) (Ne.symm n2)]; assumption)
               · (rw [hg9.cell_far _ (by simp; omega) (Ne.symm n2)]; assumption)))
        clear hK K
        (try simp only [Act.put, List.setIfInBounds_toArray, List.set_cons_zero, List.set_cons_succ])
        refine wpAnyH_ready (rs := [16]) (by kernel_rfl) (by simp) (AllReadyH.cons rfl (fun K hK => ?_) AllReadyH.nil)
        (refine step_append_at _ (by rfl) _ _ _ (by rfl) w1.heap.size 58 i0 _ 2 2 Try.underlying22 hi0 hz0 hz1 hz2 rfl (by omega) v k (bcells ((turned ps).take k)) (by rfl) ((V.out.alloc _).drew) ⟨wr.heap.size, 0, none⟩ 1 1 [.int .u8 y, .int .u8 x] (by rfl) (by rfl) (World.news_of_block (cs := #[.int .u8 y, .int .u8 x]) (t := 58) (fr := (0, 0)) (heap_alloc_new wr _)) (by simp [Value.oneCell']) b63.out bby.out (by simp; omega) ?_; intro v9 w9 ho9 hg9 hat9; obtain ⟨g9, c9, rfl, hgb9, hgl9⟩ := World.ownsRow.form ho9 (by omega); have q1 : w9.cell? ⟨hb, 1, none⟩ = some v := (hg9.cell_far ⟨hb, 1, none⟩ (by simp; omega) (Ne.symm n3)).trans (v0a _ _); have q2 : w9.frozen? ⟨hb, 1, none⟩ = false := (hg9.frozen_far ⟨hb, 1, none⟩ (by simp; omega) (Ne.symm n3)).trans ((frozen_ad _ _ _ _).trans f0))
        refine hK.out _ _ ?_ (fun hHeld => ?_)
        · try dsimp only
          (first
            | (simp [*, World.cell?_alloc_some, World.cell?_setCell_far]; done)
            | (go_split_ands
               refine ⟨?_, ?_, ?_⟩
               · (rw [hg9.cell_far _ (by simp; omega) (Ne.symm n1)]; assumption)
               · (rw [hg9.cell_far _ (by simp; omega) (Ne.symm n2)]; assumption)
               · (rw [hg9.cell_far _ (by simp; omega) (Ne.symm n2)]; assumption)))
        clear hK K
        (try simp only [Act.put, List.setIfInBounds_toArray, List.set_cons_zero, List.set_cons_succ])
        refine wpAnyH_take (i := 17) (v := ?vr17b) rfl (by kernel_rfl) (by kernel_rfl) (by kernel_rfl) (fun _ _ _ h => h) (Or.inl ⟨by rfl, ?hyr17b⟩) (by assumption) ?restr17b
        case hyr17b => (intro w hSw; (try dsimp only at hSw); go_simp <;> with_reducible rfl)
        (try simp only [Act.put, List.setIfInBounds_toArray, List.set_cons_zero, List.set_cons_succ])
        refine wpAnyH_ready (rs := [18]) (by kernel_rfl) (by simp) (AllReadyH.cons rfl (fun K hK => ?_) AllReadyH.nil)
        go_simp
        refine hK.out _ _ ?_ (fun hHeld => ?_)
        · try dsimp only
          (first
            | (simp [*, World.cell?_alloc_some, World.cell?_setCell_far]; done)
            | (go_split_ands
               refine ⟨?_, ?_, ?_⟩
               · (rw [hg9.cell_far _ (by simp; omega) (Ne.symm n1)]; assumption)
               · (rw [hg9.cell_far _ (by simp; omega) (Ne.symm n2)]; assumption)
               · (rw [hg9.cell_far _ (by simp; omega) (Ne.symm n2)]; assumption)))
        clear hK K
        (try simp only [Act.put, List.setIfInBounds_toArray, List.set_cons_zero, List.set_cons_succ])
        refine wpAnyH_done (by kernel_rfl) ?_ _
        refine NoPanic.normal ?_
        have hK9 : Kept [] w1 w9 := (((K.out.alloc (.cells #[.int .u8 y, .int .u8 x] 58)).drew).grown hg9 (fun j e => .inr (V.out.lt j e).1))
        have hkf := hid (hK9.setCell (p := ⟨hb, 1, none⟩) (.inr (by have := HHB.out; simp; omega)) (.slice (some ⟨g9, 0, none⟩) (k + 1) c9))
        have hof := hid (obj_setCell (grown_keeps hg9 (obj_alloc_old O.out _ : ((wr.alloc (.cells #[.int .u8 y, .int .u8 x] 58)).drew).heap[hb]? = _) n3) 1 (.slice (some ⟨g9, 0, none⟩) (k + 1) c9))
        have hvf := hid (show (w9.setCell ⟨hb, 1, none⟩ (.slice (some ⟨g9, 0, none⟩) (k + 1) c9)).ownsRow w1.heap.size 58 2 (.slice (some ⟨g9, 0, none⟩) (k + 1) c9) (k + 1) (bcells ((turned ps).take (k + 1))) by
          rw [TT.out, bcells_append]
          refine ownsRow_kept ho9 ((Kept.refl [hb] w9).setCell (p := ⟨hb, 1, none⟩) (.inl (by simp)) (.slice (some ⟨g9, 0, none⟩) (k + 1) c9)) (fun j hj => ?_)
          rcases hat9 with e | e
          · rw [e] at hj; simp only [List.mem_singleton]; rintro rfl; exact n3 hj
          · rw [e] at hj; simp at hj; simp; omega)
        clear ho9 hg9 hat9 hK9
        go_wp2_with fail
        exact ⟨⟨k + 1, .slice (some ⟨g9, 0, none⟩) (k + 1) c9, by omega, by go_num, hkf.out, hof.out, hvf.out⟩, by simp [intOf]; omega⟩
    · obtain rfl : ps.length = k := by omega
      have TK := hid (show (turned ps).take ps.length = turned ps by rw [List.take_of_length_le (by rw [turned_length]; omega)])
      rw [TK.out] at V
      obtain ⟨ta, tc, rfl, hp2⟩ := pairs_of_own V.out (turned_length ps)
      have c0 : wr.cell? ⟨hb, 0, none⟩ = some (.int .u8 N) := by rw [cell_of_obj O.out]; rfl
      have c1 : wr.cell? ⟨hb, 1, none⟩ = some (.slice ta ps.length tc) := by rw [cell_of_obj O.out]; rfl
      have hmk := Made_ok N ta tc (turned ps) wr hp2 hN (fun i hi => by rw [turned_length] at hi; rw [edge_turned hi]; have := HPS.out i hi; exact ⟨this.2, this.1⟩) (by rw [turned_length]; exact h1)
      rw [turned_length] at hmk
      have HMK := hid hmk
      clear hmk hp2
      go_wp2_with fail
      refine HMK.out.mono ?_
      rintro e wb ⟨vb, rfl, hkb, heb⟩
      rw [← HNN.out] at heb
      obtain ⟨fs, hfs⟩ : ∃ fs, fs = normE (told n (turned ps)) := ⟨_, rfl⟩
      have HGF := hid (show Graphy n fs by rw [hfs, HNN.out]; exact graphy N (turned ps) (by rw [turned_length]; exact h1))
      have TN := hid (fun (a b : Nat) => (show (a, b) ∈ es ↔ (b, a) ∈ fs by rw [HES.out, hfs]; exact norm_turned a b))
      rw [← hfs] at heb
      obtain ⟨fa, fc, rfl, hfc, _, _⟩ := heb.slice
      have KB2 := hid (K.out.trans hkb)
      have EB := hid heb
      have E1b := hid (E1.out.ext KB2.out)
      rw [← HNN.out]
      clear hkb heb hfs c0 c1 b0 b1 hlt
      go_wp2_with fail
      refine (Shards_ok _ (.slice ea es.length ec) es n many _ E1b.out n1 (by omega) hm (lead_rising HG.out.rise) (by have := HG.out.len; omega)).mono ?_
      rintro e wc ⟨vc, rfl, hkc, hsc⟩
      have KC := hid (KB2.out.trans hkc)
      have EC := hid (EB.out.ext hkc)
      obtain ⟨s, hs⟩ : ∃ s, s = parts n many := ⟨_, rfl⟩
      have s1 := parts_pos n many
      have s2 := parts_le many n1
      have s3 := parts_16 many n1
      rw [← hs] at hsc s1 s2 s3
      obtain ⟨sa, sc, rfl, hscc⟩ := hsc.slice
      rw [cuts_length] at hscc hsc ⊢
      have S1' := hid hsc
      have HS := hid hs
      clear hkc hsc hs
      go_wp2_with fail
      refine (Shards_ok _ (.slice fa fs.length fc) fs n many _ EC.out n1 (by omega) hm (lead_rising HGF.out.rise) (by have := HGF.out.len; omega)).mono ?_
      rintro e w2 ⟨v2, rfl, hk2, hs2⟩
      have K2 := hid (K1.out.trans (KC.out.trans hk2))
      rw [← HS.out] at hs2
      obtain ⟨ta2, tc2, rfl, htc⟩ := hs2.slice
      rw [cuts_length] at htc hs2 ⊢
      have S2 := hid (S1'.out.ext hk2)
      have S3 := hid hs2
      have nz : ¬ s = 0 := by omega
      have nzb : ((s : Int) == 0) = false := by simp; omega
      have sne : ((s : Int) != s) = false := by simp
      clear hk2 hs2
      go_wp2_with fail
      refine (Fresh_ok n w2 (by omega)).mono ?_
      rintro e w3 ⟨rfl, hk3, ht3, hz3⟩
      obtain ⟨ga, hga⟩ : ∃ ga, ga = w2.heap.size := ⟨_, rfl⟩
      obtain ⟨pa, hpa⟩ : ∃ pa, pa = w2.heap.size + 1 := ⟨_, rfl⟩
      obtain ⟨pb, hpb⟩ : ∃ pb, pb = w2.heap.size + 3 := ⟨_, rfl⟩
      obtain ⟨gb, hgb⟩ : ∃ gb, gb = w2.heap.size + 2 := ⟨_, rfl⟩
      rw [← hpa, ← hpb, ← hgb, ← hga] at ht3
      rw [← hpa, ← hpb]
      have G := hid (show w2.heap.size ≤ ga ∧ w2.heap.size ≤ gb ∧ w2.heap.size ≤ pa ∧ w2.heap.size ≤ pb ∧ ga < w3.heap.size ∧ gb < w3.heap.size ∧ pa < w3.heap.size ∧ pb < w3.heap.size by omega)
      have K3 := hid hk3
      have T3 := hid ht3
      clear hk3 ht3 hz3 hga hpa hpb hgb
      go_wp2_with fail
      refine (Fresh_ok n w3 (by omega)).mono ?_
      rintro e w4 ⟨rfl, hk4, ht4, hz4⟩
      obtain ⟨gc, hgc⟩ : ∃ gc, gc = w3.heap.size := ⟨_, rfl⟩
      obtain ⟨pc, hpc⟩ : ∃ pc, pc = w3.heap.size + 1 := ⟨_, rfl⟩
      obtain ⟨pd, hpd⟩ : ∃ pd, pd = w3.heap.size + 3 := ⟨_, rfl⟩
      obtain ⟨gd, hgd⟩ : ∃ gd, gd = w3.heap.size + 2 := ⟨_, rfl⟩
      rw [← hpc, ← hpd, ← hgd, ← hgc] at ht4
      rw [← hpc, ← hpd]
      have G2 := hid (show w2.heap.size ≤ gc ∧ w2.heap.size ≤ gd ∧ gc ≠ pa ∧ gc ≠ ga ∧ gc ≠ pb ∧ gc ≠ gb ∧ gd ≠ pa ∧ gd ≠ ga ∧ gd ≠ pb ∧ gd ≠ gb ∧ ga ≠ pc ∧ ga ≠ gc ∧ ga ≠ pd ∧ ga ≠ gd ∧ gb ≠ pc ∧ gb ≠ gc ∧ gb ≠ pd ∧ gb ≠ gd by have := G.out; have := K3.out.size; omega)
      have K4 := hid (K3.out.trans hk4)
      have T4 := hid (T3.out.ext hk4)
      have U4 := hid ht4
      clear hk4 ht4 hz4 hgc hpc hpd hgd
      have z1 : (zeros n).length = n := by simp [zeros]
      have G5 := hid (show pc ≠ ga ∧ gc ≠ ga ∧ pd ≠ ga ∧ gd ≠ ga by have := G2.out; omega)
      have G6 := hid (show pc ≠ gb ∧ gc ≠ gb ∧ pd ≠ gb ∧ gd ≠ gb by have := G2.out; omega)
      have G7 := hid (show pa ≠ gc ∧ ga ≠ gc ∧ pb ≠ gc ∧ gb ≠ gc by have := G2.out; omega)
      have G8 := hid (show pa ≠ gd ∧ ga ≠ gd ∧ pb ≠ gd ∧ gb ≠ gd by have := G2.out; omega)
      go_wp2_with fail
      refine (labelsBegin_ok pa pb ga gb (zeros n) (zeros n) w4 T4.out rfl (by omega) (by omega)).mono ?_
      rintro e w5 ⟨rfl, hk5, ht5⟩
      rw [z1] at ht5
      have K5 := hid ((K4.out.of_nil.trans hk5).to_nil (by simp; exact ⟨G.out.1, G.out.2.1⟩) : Kept [] w2 w5)
      have T5 := hid ht5
      have U5 := hid (U4.out.kept hk5 (by simp; exact ⟨⟨G5.out.1, G6.out.1⟩, ⟨G5.out.2.1, G6.out.2.1⟩, ⟨G5.out.2.2.1, G6.out.2.2.1⟩, G5.out.2.2.2, G6.out.2.2.2⟩))
      clear hk5 ht5
      go_wp2_with fail
      refine (labelsBegin_ok pc pd gc gd (zeros n) (zeros n) w5 U5.out rfl (by omega) (by omega)).mono ?_
      rintro e w6 ⟨rfl, hk6, ht6⟩
      rw [z1] at ht6
      have K6 := hid ((K5.out.of_nil.trans hk6).to_nil (by simp; exact ⟨G2.out.1, G2.out.2.1⟩) : Kept [] w2 w6)
      have U6 := hid ht6
      have T6 := hid (T5.out.kept hk6 (by simp; exact ⟨⟨G7.out.1, G8.out.1⟩, ⟨G7.out.2.1, G8.out.2.1⟩, ⟨G7.out.2.2.1, G8.out.2.2.1⟩, G7.out.2.2.2, G8.out.2.2.2⟩))
      clear hk6 ht6
      go_wp2_with fail
      go_loopw [17] (fun i wr => ∃ r : Nat, ∃ X : List Int, r ≤ 3 ∧ X.length = n ∧ i = .int .i64 r ∧ Kept [] w2 wr ∧ Two wr pa ga pb gb X X ∧ Two wr pc gc pd gd X X) (fun i _ => 3 - (intOf i).toNat)
      case atStart => exact ⟨0, _, by omega, tab_length _ _, rfl, K6.out, T6.out, U6.out⟩
      case round =>
        clear T6 U6 K6 T5 U5 K5 T4 U4 K4 T3 K3
        obtain ⟨r, X, hr, hXl, rfl, hK, hT, hU⟩ := hrel
        have K := hid hK
        have T := hid hT
        have U := hid hU
        have xl := hid hXl
        clear hK hT hU hXl
        by_cases hrl : r < 3
        · have d3 : decide ((r : Int) < 3) = true := by simp; omega
          go_wp2_with fail
          go_loopw [18] (fun i wq => ∃ j : Nat, j ≤ s ∧ i = .int .i64 j ∧ Kept [] w2 wq ∧ Two wq pa ga pb gb X (labelsShard X X (((cuts n s).take j).flatMap (shardEdges es))) ∧ Two wq pc gc pd gd X (labelsShard X X (((cuts n s).take j).flatMap (shardEdges fs)))) (fun i _ => s - (intOf i).toNat)
          case atStart => exact ⟨0, Nat.zero_le _, rfl, K.out, T.out, U.out⟩
          case round =>
            obtain ⟨j, hj, rfl, hK, hT, hU⟩ := hrel
            have K := hid hK
            have T := hid hT
            have U := hid hU
            clear hK hT hU
            have yl := hid (show (labelsShard X X (((cuts n s).take j).flatMap (shardEdges es))).length = n by rw [labelsShard_length, xl.out])
            have tl := hid (show (labelsShard X X (((cuts n s).take j).flatMap (shardEdges fs))).length = n by rw [labelsShard_length, xl.out])
            by_cases hjl : j < s
            · obtain ⟨sg, fr, m, bo, rfl, hcut, hmn, hsh⟩ := S2.out.shard s1 s2 hjl K.out [ga, gb, gc, gd] (by simp; exact ⟨G.out.1, G.out.2.1, G2.out.1, G2.out.2.1⟩)
              obtain ⟨sg2, fr2, m2, bo2, rfl, hcut2, hmn2, hsh2⟩ := S3.out.shard s1 s2 hjl K.out [ga, gb, gc, gd] (by simp; exact ⟨G.out.1, G.out.2.1, G2.out.1, G2.out.2.1⟩)
              have C1 := hid (show labelsShard X X (((cuts n s).take (j + 1)).flatMap (shardEdges es)) = labelsShard X (labelsShard X X (((cuts n s).take j).flatMap (shardEdges es))) (edgesOf fr (rowsOf es fr m)) by
                rw [shards_next es hjl, shardEdges_at hcut, labelsShard_append])
              have C2 := hid (show labelsShard X X (((cuts n s).take (j + 1)).flatMap (shardEdges fs)) = labelsShard X (labelsShard X X (((cuts n s).take j).flatMap (shardEdges fs))) (edgesOf fr2 (rowsOf fs fr2 m2)) by
                rw [shards_next fs hjl, shardEdges_at hcut2, labelsShard_append])
              have q0 := hsh.c0
              have q1 := hsh.c1
              have q2 := hsh.c2
              have SH := hid hsh
              have SH2 := hid hsh2
              have SG := hid (show sg2 ∉ [gb] by have := S3.out.lt s1 s2; have := G.out; simp; omega)
              have rl := hid (rowsOf_length es fr m)
              have rl2 := hid (rowsOf_length fs fr2 m2)
              clear hcut hsh hcut2 hsh2
              have hcs := labelsShard_ok [ga, gb, gc, gd] pa pb ga gb _ _ fr ((fr + m : Nat) : Int) (some ⟨bo, 0, none⟩) m (rowsOf es fr m) r wr T.out (by rw [xl.out, yl.out]) (by rw [xl.out]; omega) (by rw [xl.out]; omega) SH.out.out (by simp) (by rw [xl.out]; omega) (by rw [rl.out]; omega) (by rw [rl.out]; omega) (by rw [xl.out]; exact HG.out.within fr m) (HG.out.short fr m)
              rw [rl.out] at hcs
              have HC := hid hcs
              clear hcs
              go_wp2_with fail
              refine HC.out.mono ?_
              rintro e w5 ⟨rfl, hk5, ht5⟩
              have K5 := hid ((K.out.of_nil.trans hk5).to_nil (by simp; exact G.out.2.1))
              have T5 := hid ht5
              have U5 := hid (U.out.kept hk5 (by simp; exact G6.out))
              have SH5 := hid (SH2.out.kept hk5 SG.out (by simp))
              clear hk5 ht5 q0 q1 q2 HC
              have q0 := SH5.out.c0
              have q1 := SH5.out.c1
              have q2 := SH5.out.c2
              have hcs := labelsShard_ok [ga, gb, gc, gd] pc pd gc gd _ _ fr2 ((fr2 + m2 : Nat) : Int) (some ⟨bo2, 0, none⟩) m2 (rowsOf fs fr2 m2) r w5 U5.out (by rw [xl.out, tl.out]) (by rw [xl.out]; omega) (by rw [xl.out]; omega) SH5.out.out (by simp) (by rw [xl.out]; omega) (by rw [rl2.out]; omega) (by rw [rl2.out]; omega) (by rw [xl.out]; exact HGF.out.within fr2 m2) (HGF.out.short fr2 m2)
              rw [rl2.out] at hcs
              have HC := hid hcs
              clear hcs
              go_wp2_with fail
              refine HC.out.mono ?_
              rintro e w6 ⟨rfl, hk6, ht6⟩
              have K6 := hid ((K5.out.of_nil.trans hk6).to_nil (by simp; exact G2.out.2.1))
              have U6 := hid ht6
              have T6 := hid (T5.out.kept hk6 (by simp; exact G8.out))
              clear hk6 ht6
              go_wp2
              exact ⟨⟨j + 1, by omega, by go_num, K6.out, by rw [C1.out]; exact T6.out, by rw [C2.out]; exact U6.out⟩, by simp [intOf]; omega⟩
            · have E1x := hid (show ((cuts n s).take j).flatMap (shardEdges es) = tri es n by rw [List.take_of_length_le (by rw [cuts_length]; omega), shards_all es s1])
              have E2x := hid (show labelsShard X X (((cuts n s).take j).flatMap (shardEdges fs)) = labelsShard X X (tri es n) by
                rw [List.take_of_length_le (by rw [cuts_length]; omega), shards_all fs s1]
                exact (tri_turned HG.out.lt1 HGF.out.lt1 TN.out X X).symm)
              rw [E1x.out] at T yl
              rw [E2x.out] at U
              have down := hid (fun (v : Nat) (hv : v < n) => labels_down (T := tri es n) xl.out (fun e he => ⟨(mem_tri.1 he).1, HG.out.lt2 _ (mem_tri.1 he).2.1⟩) hv)
              obtain ⟨Y, hY⟩ : ∃ Y, Y = labelsShard X X (tri es n) := ⟨_, rfl⟩
              rw [← hY] at T U yl down
              clear hY E1x E2x tl
              have TK := hid (labels_taken xl.out yl.out (fun i hi => (down.out i hi).1))
              go_wp2_with fail
              refine (labelsCommit_ok pa pb ga gb X Y 0 r _ T.out (by rw [xl.out, yl.out]) (by rw [xl.out]; omega) (by rw [xl.out]; omega)).mono ?_
              rintro e w8 ⟨rfl, hk8, ht8⟩
              rw [xl.out, TK.out] at ht8
              have K8 := hid ((K.out.of_nil.trans hk8).to_nil (by simp; exact G.out.1))
              have T8 := hid ht8
              have U8 := hid (U.out.kept hk8 (by simp; exact G5.out))
              clear hk8 ht8
              go_wp2_with fail
              refine (labelsCommit_ok pc pd gc gd X Y 0 r _ U8.out (by rw [xl.out, yl.out]) (by rw [xl.out]; omega) (by rw [xl.out]; omega)).mono ?_
              rintro e w9 ⟨rfl, hk9, ht9⟩
              rw [xl.out, TK.out] at ht9
              have K9 := hid ((K8.out.of_nil.trans hk9).to_nil (by simp; exact G2.out.1))
              have U9 := hid ht9
              have T9 := hid (T8.out.kept hk9 (by simp; exact G7.out))
              clear hk9 ht9
              obtain ⟨b, hb⟩ : ∃ b, labelsDone X Y = b := ⟨_, rfl⟩
              rw [hb]
              clear hb
              have bb : (b != b) = false := by simp
              go_wp2_with fail
              refine (Read_ok pa ga Y _ T9.out.cur (by rw [yl.out]; omega)).mono ?_
              rintro e w10 ⟨v10, rfl, hk10, hr10⟩
              have K10 := hid (K9.out.trans hk10)
              have T10 := hid (T9.out.ext hk10)
              have U10 := hid (U9.out.ext hk10)
              have R10 := hid hr10
              clear hk10 hr10
              go_wp2_with fail
              refine (Read_ok pc gc Y _ U10.out.cur (by rw [yl.out]; omega)).mono ?_
              rintro e w11 ⟨v11, rfl, hk11, hr11⟩
              have K11 := hid (K10.out.trans hk11)
              have T11 := hid (T10.out.ext hk11)
              have U11 := hid (U10.out.ext hk11)
              have R11 := hid (ownsRow_kept R10.out hk11 (by simp))
              have V11 := hid hr11
              clear hk11 hr11
              go_wp2_with fail
              refine (Numbers_true _ _ v10 v11 Y Y _ R11.out V11.out (by rw [yl.out]; omega) rfl).mono ?_
              rintro e w12 ⟨rfl, hk12⟩
              have K12 := hid (K11.out.trans hk12)
              have T12 := hid (T11.out.ext hk12)
              have U12 := hid (U11.out.ext hk12)
              clear hk12
              go_wp2
              exact ⟨⟨r + 1, Y, by omega, yl.out, by go_num, K12.out, T12.out, U12.out⟩, by simp [intOf]; omega⟩
        · have d3 : decide ((r : Int) < 3) = false := by simp; omega
          go_wp2_with fail
          refine (labelsEnds_ok _).mono ?_
          rintro e w7 ⟨rfl, hk7⟩
          have K7 := hid ((K2.out.trans K.out).trans hk7)
          clear hk7
          go_wp2_with fail
          go_ret
          exact ⟨rfl, K7.out⟩

set_option maxRecDepth 100000 in
set_option maxHeartbeats 1000000 in
theorem LabelsTurned_ok (N many : Nat) (a : Option Addr) (c : Nat) (ps : List (Nat × Nat)) (w : World) (h : IsPairs w a ps) (hN : N < 256) (hm : many < 256)
    (hps : ∀ i, i < ps.length → (edge ps i).1 < 256 ∧ (edge ps i).2 < 256) :
    Calls Try.prog 6 #[.agg #[.int .u8 N, .slice a ps.length c], .int .u8 many] w fun e w' => e = .returned (.bool true) ∧ Kept [] w w' := by
  by_cases h1 : ps.length ≤ 300
  · exact LabelsTurned_main N many a c ps w h hN hm hps h1
  · have d1 : decide ((300 : Int) < ps.length) = true := by simp; omega
    go_enter Try.func6, Try.ntmps6
    go_wp2_with fail
    have kb : Kept [] w (w.alloc (.cells #[.int .u8 N, .slice a ps.length c] 24)) := (Kept.refl _ _).alloc _
    refine (labelsEnds_ok _).mono ?_
    rintro e w7 ⟨rfl, hk7⟩
    have K7 := hid (kb.trans hk7)
    clear hk7 kb
    go_wp2_with fail
    go_ret
    exact ⟨rfl, K7.out⟩
end Go.Proofs.Ytedljgohmlilgaa
