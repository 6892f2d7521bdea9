/-
  The walk of truth.of: the graph of edges, both ways.
-/
import Derived.Test.YtedljgohmlilgaaGreatTFil
import Derived.Test.YtedljgohmlilgaaGreatMkW
namespace Go.Proofs.YtedljgohmlilgaaGreat
open Go.RowKit
set_option linter.unusedVariables false
set_option linter.unusedSimpArgs false

def pushR (r : List (List Nat)) (i x : Nat) : List (List Nat) := r.set i (row r i ++ [x])
theorem pushR_length (r : List (List Nat)) (i x : Nat) : (pushR r i x).length = r.length := by simp [pushR]
theorem row_pushR (r : List (List Nat)) (i x j : Nat) (hi : i < r.length) : row (pushR r i x) j = if i = j then row r j ++ [x] else row r j := by
  unfold pushR; rw [row_set _ _ _ _ hi]; split
  · rename_i h; subst h; rfl
  · rfl
theorem pushR_bound {r : List (List Nat)} {c i x : Nat} (h : ∀ j, (row r j).length ≤ c) (hi : i < r.length) : ∀ j, (row (pushR r i x) j).length ≤ c + 1 := by
  intro j
  rw [row_pushR _ _ _ _ hi]
  have := h j
  split <;> simp <;> omega
/-- Where edges lead; and the neighbours, both ways: as 'of' lays them. -/
def outR (n : Nat) (l : List (Nat × Nat)) : List (List Nat) := l.foldl (fun r e => pushR r e.1 e.2) (List.replicate n [])
def allR (n : Nat) (l : List (Nat × Nat)) : List (List Nat) := l.foldl (fun r e => pushR (pushR r e.1 e.2) e.2 e.1) (List.replicate n [])
theorem outR_snoc (n : Nat) (l : List (Nat × Nat)) (e : Nat × Nat) : outR n (l ++ [e]) = pushR (outR n l) e.1 e.2 := by simp [outR]
theorem allR_snoc (n : Nat) (l : List (Nat × Nat)) (e : Nat × Nat) : allR n (l ++ [e]) = pushR (pushR (allR n l) e.1 e.2) e.2 e.1 := by simp [allR]
theorem snoc_ind {α : Type} {p : List α → Prop} (h0 : p []) (h1 : ∀ l a, p l → p (l ++ [a])) (l : List α) : p l := by
  have : ∀ r : List α, p r.reverse := fun r => by
    induction r with
    | nil => simpa using h0
    | cons a r ih => rw [List.reverse_cons]; exact h1 _ _ ih
  have := this l.reverse
  rwa [List.reverse_reverse] at this
theorem outR_length (n : Nat) (l : List (Nat × Nat)) : (outR n l).length = n := by
  induction l using snoc_ind with
  | h0 => simp [outR]
  | h1 l a ih => rw [outR_snoc, pushR_length, ih]
theorem allR_length (n : Nat) (l : List (Nat × Nat)) : (allR n l).length = n := by
  induction l using snoc_ind with
  | h0 => simp [allR]
  | h1 l a ih => rw [allR_snoc, pushR_length, pushR_length, ih]
theorem row_nils (n j : Nat) : row (List.replicate n []) j = [] := by
  unfold row; rw [List.getD_eq_getElem?_getD, List.getElem?_replicate]; split <;> rfl
theorem outR_bound {n : Nat} {l : List (Nat × Nat)} (h : ∀ e ∈ l, e.1 < n ∧ e.2 < n) : ∀ j, (row (outR n l) j).length ≤ l.length := by
  induction l using snoc_ind with
  | h0 => intro j; simp [outR, row_nils]
  | h1 l a ih =>
    intro j
    rw [outR_snoc, List.length_append]
    exact pushR_bound (ih (fun e he => h e (by simp [he]))) (by rw [outR_length]; exact (h a (by simp)).1) j
theorem allR_bound {n : Nat} {l : List (Nat × Nat)} (h : ∀ e ∈ l, e.1 < n ∧ e.2 < n) : ∀ j, (row (allR n l) j).length ≤ 2 * l.length := by
  induction l using snoc_ind with
  | h0 => intro j; simp [allR, row_nils]
  | h1 l a ih =>
    intro j
    rw [allR_snoc, List.length_append]
    have h1 := pushR_bound (x := a.2) (ih (fun e he => h e (by simp [he]))) (by rw [allR_length]; exact (h a (by simp)).1)
    have h2 := pushR_bound (x := a.1) (i := a.2) h1 (by rw [pushR_length, allR_length]; exact (h a (by simp)).2) j
    simp at h2 ⊢
    omega

/-- A block that another row's growth leaves as it is. -/
theorem RowsAt.other {w w1 : World} {E T bo bo' B i : Nat} {vals vals' : List Value} {rows rows' : List (List Nat)} {nv : Value} (h : RowsAt w E T bo B vals rows) (h' : RowsAt w E T bo' B vals' rows') (hT : T ≠ E) (hi : i < rows.length)
    (hne : bo ≠ bo') (hap : ∀ j g, j < rows'.length → (val vals i).ownBlock = some g → (val vals' j).ownBlock ≠ some g) (hg : w.grownBy w1 (val vals i).ownBlock) : RowsAt (w1.setCell ⟨bo, i, none⟩ nv) E T bo' B vals' rows' := by
  have hbo : w1.heap[bo]? = some (.cells vals.toArray T (0, 0)) := grown_keeps hg h.obj (own_ne (h.own i hi) h.obj hT)
  refine ⟨?_, h'.len, fun j hj => ?_, h'.apart⟩
  · rw [Below.heap_setCell _ _ _ _ (Ne.symm hne)]; exact grown_keeps hg h'.obj (own_ne (h.own i hi) h'.obj hT)
  · have ho : w1.ownsRow B E 1 (val vals' j) (row rows' j).length (intCells (row rows' j)) := by
      refine (h'.own j hj).kept hg ?_
      rcases hb : (val vals' j).ownBlock with _ | g
      · exact .inl rfl
      · right; intro e2; exact hap j g hj e2.symm hb
    exact ownsRow_kept (S := [bo]) ho ((Kept.refl _ _).setCell (by simp) _) (fun k hk => by simp; rintro rfl; exact own_ne ho hbo hT hk)

/-- The graph that 'of' builds. -/
structure Gr (w : World) (gb bo ba B n : Nat) (vo va : List Value) (ro ra : List (List Nat)) : Prop where
  head : w.heap[gb]? = some (.cells #[.int .i64 (n : Int), .slice (some ⟨bo, 0, none⟩) n n, .slice (some ⟨ba, 0, none⟩) n n] 96 (0, 0))
  out : RowsAt w 3 37 bo B vo ro
  all : RowsAt w 3 37 ba B va ra
  lo : ro.length = n
  la : ra.length = n
  ne : bo ≠ ba
  apart : ∀ i j g, i < n → j < n → (val vo i).ownBlock = some g → (val va j).ownBlock ≠ some g
theorem Gr.ext {w w' : World} {gb bo ba B n : Nat} {vo va : List Value} {ro ra : List (List Nat)} (h : Gr w gb bo ba B n vo va ro ra) (k : Kept [] w w') : Gr w' gb bo ba B n vo va ro ra :=
  ⟨k.obj h.head (by simp), h.out.ext k, h.all.ext k, h.lo, h.la, h.ne, h.apart⟩

theorem Gr.pushOut {w w1 : World} {gb bo ba B n i x gg : Nat} {vo va : List Value} {ro ra : List (List Nat)} {nv : Value} (h : Gr w gb bo ba B n vo va ro ra) (hi : i < n) (hg : w.grownBy w1 (val vo i).ownBlock) (hnv : nv.ownBlock = some gg)
    (hown : w1.ownsRow B 3 1 nv ((row ro i).length + 1) (intCells (row ro i) ++ [.int .i64 x])) (hat : (val vo i).ownBlock = some gg ∨ w.heap.size ≤ gg) :
    Gr (w1.setCell ⟨bo, i, none⟩ nv) gb bo ba B n (vo.set i nv) va (ro.set i (row ro i ++ [x])) ra := by
  have hi' : i < ro.length := by rw [h.lo]; exact hi
  have hvi : i < vo.length := by rw [h.out.len]; exact hi'
  have n1 : gb ≠ bo := fun e => by have := h.head; rw [e, h.out.obj] at this; simp at this
  refine ⟨?_, h.out.push (by decide) hi' hg hnv hown hat, h.out.other h.all (by decide) hi' h.ne (fun j g hj e => h.apart i j g hi (by rw [← h.la]; exact hj) e) hg, by rw [List.length_set]; exact h.lo, h.la, h.ne, ?_⟩
  · rw [Below.heap_setCell _ _ _ _ n1]; exact grown_keeps hg h.head (own_ne (h.out.own i hi') h.head (by decide))
  · intro j k g hj hk e
    rw [val_set _ _ _ _ hvi] at e
    by_cases ej : i = j
    · rw [if_pos ej, hnv] at e
      have e := Option.some.inj e
      subst e
      intro e2
      rcases hat with ha | ha
      · exact h.apart i k _ hi hk ha e2
      · have := ((h.all.own k (by rw [h.la]; exact hk)).lt _ e2).2; omega
    · rw [if_neg ej] at e
      exact h.apart j k g hj hk e
theorem Gr.pushAll {w w1 : World} {gb bo ba B n i x gg : Nat} {vo va : List Value} {ro ra : List (List Nat)} {nv : Value} (h : Gr w gb bo ba B n vo va ro ra) (hi : i < n) (hg : w.grownBy w1 (val va i).ownBlock) (hnv : nv.ownBlock = some gg)
    (hown : w1.ownsRow B 3 1 nv ((row ra i).length + 1) (intCells (row ra i) ++ [.int .i64 x])) (hat : (val va i).ownBlock = some gg ∨ w.heap.size ≤ gg) :
    Gr (w1.setCell ⟨ba, i, none⟩ nv) gb bo ba B n vo (va.set i nv) ro (ra.set i (row ra i ++ [x])) := by
  have hi' : i < ra.length := by rw [h.la]; exact hi
  have hvi : i < va.length := by rw [h.all.len]; exact hi'
  have n1 : gb ≠ ba := fun e => by have := h.head; rw [e, h.all.obj] at this; simp at this
  refine ⟨?_, h.all.other h.out (by decide) hi' (Ne.symm h.ne) (fun j g hj e e2 => h.apart j i g (by rw [← h.lo]; exact hj) hi e2 e) hg, h.all.push (by decide) hi' hg hnv hown hat, h.lo, by rw [List.length_set]; exact h.la, h.ne, ?_⟩
  · rw [Below.heap_setCell _ _ _ _ n1]; exact grown_keeps hg h.head (own_ne (h.all.own i hi') h.head (by decide))
  · intro j k g hj hk e
    rw [val_set _ _ _ _ hvi]
    by_cases ek : i = k
    · rw [if_pos ek, hnv]
      intro e2
      have e2 := Option.some.inj e2
      subst e2
      rcases hat with ha | ha
      · exact h.apart j i _ hj hi e ha
      · have := ((h.out.own j (by rw [h.lo]; exact hj)).lt _ e).2; omega
    · rw [if_neg ek]
      exact h.apart j k g hj hk e
theorem Gr.new {w : World} {gb bo ba B n : Nat} (hh : w.heap[gb]? = some (.cells #[.int .i64 (n : Int), .slice (some ⟨bo, 0, none⟩) n n, .slice (some ⟨ba, 0, none⟩) n n] 96 (0, 0)))
    (h1 : w.heap[bo]? = some (.cells (madeCells #[.slice none 0 0] n) 37 (0, 0))) (h2 : w.heap[ba]? = some (.cells (madeCells #[.slice none 0 0] n) 37 (0, 0))) (hne : bo ≠ ba) :
    Gr w gb bo ba B n (List.replicate n (.slice none 0 0)) (List.replicate n (.slice none 0 0)) (List.replicate n []) (List.replicate n []) := by
  rw [made_nils] at h1 h2
  refine ⟨hh, RowsAt.new n h1, RowsAt.new n h2, by simp, by simp, hne, ?_⟩
  intro i j g hi hj e
  have hv : val (List.replicate n (Value.slice none 0 0)) i = .slice none 0 0 := by unfold val; rw [List.getD_eq_getElem?_getD, List.getElem?_replicate]; split <;> rfl
  rw [hv] at e
  simp [Value.ownBlock] at e

/-- Behind the graph's making. -/
def OfStart (w : World) (n : Nat) (s : Value) (wx : World) : Prop :=
  ∃ gb bo ba, s = .pointer (some ⟨gb, 0, none⟩) ∧ Kept [] w wx ∧ w.heap.size ≤ gb ∧ w.heap.size ≤ bo ∧ w.heap.size ≤ ba ∧ ∀ B, Gr wx gb bo ba B n (List.replicate n (.slice none 0 0)) (List.replicate n (.slice none 0 0)) (List.replicate n []) (List.replicate n [])
theorem of_start {w wx : World} {gb bo ba n : Nat} (hk : Kept [] w wx) (h1 : w.heap.size ≤ gb) (h2 : w.heap.size ≤ bo) (h3 : w.heap.size ≤ ba)
    (hh : wx.heap[gb]? = some (.cells #[.int .i64 (n : Int), .slice (some ⟨bo, 0, none⟩) n n, .slice (some ⟨ba, 0, none⟩) n n] 96 (0, 0)))
    (hb : wx.heap[bo]? = some (.cells (madeCells #[.slice none 0 0] n) 37 (0, 0))) (ha : wx.heap[ba]? = some (.cells (madeCells #[.slice none 0 0] n) 37 (0, 0))) (hne : bo ≠ ba) : OfStart w n (.pointer (some ⟨gb, 0, none⟩)) wx :=
  ⟨gb, bo, ba, rfl, hk, h1, h2, h3, fun _ => Gr.new hh hb ha hne⟩

set_option maxRecDepth 100000 in
set_option maxHeartbeats 16000000 in
theorem tof_ok (n : Nat) (a : Option Addr) (c B0 : Nat) (es : List (Nat × Nat)) (w : World) (h : IsEdges w 59 B0 (.slice a es.length c) es) (hn1 : 1 ≤ n) (hn : n ≤ 256) (hlt : ∀ e ∈ es, e.1 < n ∧ e.2 < n) (hl : es.length ≤ 300) :
    Calls Tryz.prog 33 #[.int .i64 n, .slice a es.length c] w fun e w' => ∃ bo ba, e = .returned (.agg #[.int .i64 n, .slice (some ⟨bo, 0, none⟩) n n, .slice (some ⟨ba, 0, none⟩) n n]) ∧ Kept [] w w' ∧ (∀ L, (∀ k ∈ L, k < w.heap.size) → IsOut w' L (some ⟨bo, 0, none⟩) (outR n es)) ∧ (∀ L, (∀ k ∈ L, k < w.heap.size) → IsOut w' L (some ⟨ba, 0, none⟩) (allR n es)) := by
  obtain ⟨a', c', he, hc, hnone, hsome⟩ := h.slice
  cases he
  have HLT := hid hlt
  have HS := hid hsome
  clear hlt hsome
  obtain ⟨rb, hrb⟩ : ∃ rb, rb = w.heap.size := ⟨_, rfl⟩
  obtain ⟨B, hB⟩ : ∃ B, B = w.heap.size := ⟨_, rfl⟩
  obtain ⟨w1, hw1⟩ : ∃ w1, w1 = w.alloc (.cells #[.int .i64 0, .slice none 0 0, .slice none 0 0] 96) := ⟨_, rfl⟩
  have hk1 := hid (show Kept [] w w1 by rw [hw1]; exact (Kept.refl _ _).alloc _)
  have o1 := hid (show w1.heap[rb]? = some (.cells #[.int .i64 0, .slice none 0 0, .slice none 0 0] 96 (0, 0)) by rw [hw1]; exact new_obj hrb)
  have HW1 := hid hw1
  have HRBE := hid hrb
  have HBE := hid hB
  have hsz1 : w1.heap.size = w.heap.size + 1 := by rw [hw1]; simp
  clear hw1 hrb hB
  have hmk := run_make_row' (P := Tryz.prog) 41 37 (.slice none 0 0) 24 Tryz.underlying41 info_ints rfl .i64 .i64 n (by omega) (by omega)
  go_enter Tryz.func33, Tryz.ntmps33
  go_wp2_with fail
  rw [← HW1.out, ← HRBE.out]
  clear HW1
  go_cut [5] (fun s wx => OfStart w1 n s wx)
  case first =>
    go_region
    all_goals (
      go_wp2_with fail
      go_meet
      first
        | exact of_start (gb := w.heap.size + 1) (bo := w.heap.size + 1 + 1) (ba := w.heap.size + 1 + 1 + 1) ((((Kept.refl [] w1).alloc _).alloc _).alloc _).drew (by omega) (by omega) (by omega) (obj_alloc_old (obj_alloc_old (new_obj (by simp [hsz1])) _) _) (obj_alloc_old (new_obj (by simp [hsz1])) _) (new_obj (by simp [hsz1])) (by omega)
        | exact of_start (gb := w.heap.size + 1) (bo := w.heap.size + 1 + 1 + 1) (ba := w.heap.size + 1 + 1) ((((Kept.refl [] w1).alloc _).alloc _).alloc _).drew (by omega) (by omega) (by omega) (obj_alloc_old (obj_alloc_old (new_obj (by simp [hsz1])) _) _) (new_obj (by simp [hsz1])) (obj_alloc_old (new_obj (by simp [hsz1])) _) (by omega)
        | exact of_start (gb := w.heap.size + 1 + 1) (bo := w.heap.size + 1) (ba := w.heap.size + 1 + 1 + 1) ((((Kept.refl [] w1).alloc _).alloc _).alloc _).drew (by omega) (by omega) (by omega) (obj_alloc_old (new_obj (by simp [hsz1])) _) (obj_alloc_old (obj_alloc_old (new_obj (by simp [hsz1])) _) _) (new_obj (by simp [hsz1])) (by omega)
        | exact of_start (gb := w.heap.size + 1 + 1) (bo := w.heap.size + 1 + 1 + 1) (ba := w.heap.size + 1) ((((Kept.refl [] w1).alloc _).alloc _).alloc _).drew (by omega) (by omega) (by omega) (obj_alloc_old (new_obj (by simp [hsz1])) _) (new_obj (by simp [hsz1])) (obj_alloc_old (obj_alloc_old (new_obj (by simp [hsz1])) _) _) (by omega)
        | exact of_start (gb := w.heap.size + 1 + 1 + 1) (bo := w.heap.size + 1) (ba := w.heap.size + 1 + 1) ((((Kept.refl [] w1).alloc _).alloc _).alloc _).drew (by omega) (by omega) (by omega) (new_obj (by simp [hsz1])) (obj_alloc_old (obj_alloc_old (new_obj (by simp [hsz1])) _) _) (obj_alloc_old (new_obj (by simp [hsz1])) _) (by omega)
        | exact of_start (gb := w.heap.size + 1 + 1 + 1) (bo := w.heap.size + 1 + 1) (ba := w.heap.size + 1) ((((Kept.refl [] w1).alloc _).alloc _).alloc _).drew (by omega) (by omega) (by omega) (new_obj (by simp [hsz1])) (obj_alloc_old (new_obj (by simp [hsz1])) _) (obj_alloc_old (obj_alloc_old (new_obj (by simp [hsz1])) _) _) (by omega))
  case rest =>
    obtain ⟨gb, bo, ba, rfl, hk2, hgb, hbo, hba, hL⟩ := hcut
    have HK2 := hid (hk1.out.trans hk2)
    have O2 := hid (hk2.obj o1.out (by simp))
    have G0 := hid (hL B)
    have HB := hid (show B ≤ gb ∧ B ≤ bo ∧ B ≤ ba ∧ w.heap.size = B by have := HBE.out; omega)
    clear hmk o1 hk1 hk2 hL hgb hbo hba hsz1
    go_wp2
    go_loopw [7, 16] (fun _ i wr => ∃ k vo va, k ≤ es.length ∧ i = .int .i64 (k : Nat) ∧ Kept [] w wr ∧ Gr wr gb bo ba B n vo va (outR n (es.take k)) (allR n (es.take k)) ∧ wr.heap[rb]? = some (.cells #[.int .i64 0, .slice none 0 0, .slice none 0 0] 96 (0, 0))) (fun _ i _ => es.length - (intOf i).toNat)
    case atStart => exact ⟨0, _, _, Nat.zero_le _, rfl, HK2.out, by simpa [outR, allR] using G0.out, O2.out⟩
    case round =>
      obtain ⟨k, vo, va, hk, rfl, hK, hG, hr⟩ := hrel
      by_cases hlt : k < es.length
      · have hal : ∃ ad, a = some ad := by
          cases a with
          | none => have := hnone rfl; omega
          | some ad => exact ⟨ad, rfl⟩
        obtain ⟨ad, rfl⟩ := hal
        obtain ⟨g, rfl, hgb, hgl, hcell⟩ := HS.out ad rfl
        have e1 := hK.cell_some (hcell _ _ (cellsOf_at es k hlt).1) (by simp)
        have e2 := hK.cell_some (hcell _ _ (cellsOf_at es k hlt).2) (by simp)
        obtain ⟨u, v, huv⟩ : ∃ u v, edge es k = (u, v) := ⟨_, _, rfl⟩
        rw [huv] at e1 e2
        have HT' := hid (show es.take (k + 1) = es.take k ++ [(u, v)] by rw [List.take_succ_eq_append_getElem hlt, ← edge_eq hlt, huv])
        have huv2 := HLT.out (u, v) (by rw [← huv, edge_eq hlt]; exact List.getElem_mem _)
        have hu : u < n := huv2.1
        have hv : v < n := huv2.2
        have hsub : ∀ e ∈ es.take k, e.1 < n ∧ e.2 < n := fun e he => HLT.out e (List.mem_of_mem_take he)
        have HL := hid (show (∀ j, (row (outR n (es.take k)) j).length ≤ 300) ∧ (∀ j, (row (allR n (es.take k)) j).length ≤ 600) from ⟨fun j => Nat.le_trans (outR_bound hsub j) (by simp; omega), fun j => Nat.le_trans (allR_bound hsub j) (by simp; omega)⟩)
        clear huv2 huv hsub hcell
        obtain ⟨ro, hro⟩ : ∃ ro, outR n (es.take k) = ro := ⟨_, rfl⟩
        obtain ⟨ra, hra⟩ : ∃ ra, allR n (es.take k) = ra := ⟨_, rfl⟩
        have HRO := hid (show outR n (es.take (k + 1)) = ro.set u (row ro u ++ [v]) by rw [HT'.out, outR_snoc, hro]; rfl)
        have HRA := hid (show allR n (es.take (k + 1)) = (ra.set u (row ra u ++ [v])).set v (row (ra.set u (row ra u ++ [v])) v ++ [u]) by rw [HT'.out, allR_snoc, hra]; rfl)
        rw [hro, hra] at hG HL
        clear hro hra
        obtain ⟨eb, heb⟩ : ∃ eb, eb = wr.heap.size := ⟨_, rfl⟩
        obtain ⟨W1, hW1⟩ : ∃ W1, W1 = wr.alloc (.cells #[.int .i64 (u : Int), .int .i64 (v : Int)] 59) := ⟨_, rfl⟩
        have HK := hid (show Kept [] w W1 by rw [hW1]; exact hK.alloc _)
        have HG := hid (show Gr W1 gb bo ba B n vo va ro ra by rw [hW1]; exact hG.ext ((Kept.refl [] wr).alloc _))
        have HRB := hid (show W1.heap[rb]? = some (.cells #[.int .i64 0, .slice none 0 0, .slice none 0 0] 96 (0, 0)) by rw [hW1]; exact obj_alloc_old hr _)
        have HE := hid (show W1.heap[eb]? = some (.cells #[.int .i64 (u : Int), .int .i64 (v : Int)] 59 (0, 0)) by rw [hW1]; exact new_obj heb)
        have HW1 := hid hW1
        have HEB := hid heb
        clear hW1 heb hK hG hr
        go_wp2_with fail
        rw [← HW1.out, ← HEB.out]
        clear HW1 HEB e1 e2
        go_cut [] (fun wx => ∃ nv, Gr wx gb bo ba B n (vo.set u nv) va (ro.set u (row ro u ++ [v])) ra ∧ Kept [] w wx ∧ wx.heap[rb]? = some (.cells #[.int .i64 0, .slice none 0 0, .slice none 0 0] 96 (0, 0)) ∧ wx.heap[eb]? = some (.cells #[.int .i64 (u : Int), .int .i64 (v : Int)] 59 (0, 0)))
        case first =>
          have hrows := HG.out.out
          have hlen : ro.length = n := HG.out.lo
          have hown := hrows.own u (by rw [hlen]; exact hu)
          have s1 : W1.cell? ⟨gb, 1, none⟩ = some (.slice (some ⟨bo, 0, none⟩) n n) := cell_of_obj HG.out.head 1
          have s2 := hrows.cell (i := u) (by rw [hlen]; exact hu)
          have s3 := hrows.free u
          have s4 : W1.cell? ⟨eb, 0, none⟩ = some (.int .i64 u) := cell_of_obj HE.out 0
          have s5 : W1.cell? ⟨eb, 1, none⟩ = some (.int .i64 v) := cell_of_obj HE.out 1
          have n1 := own_ne hown HG.out.head (by decide)
          have n2 := own_ne hown HE.out (by decide)
          have n4 := own_ne hown hrows.obj (by decide)
          have hrl : (row ro u).length ≤ 1000 := by have := HL.out.1 u; omega
          have b63 := hid (show (row ro u).length + 1 ≤ maxLen by unfold maxLen; omega)
          have bby := hid (show ((row ro u).length + 1) * 8 ≤ 140737488355328 by omega)
          have hob := hid hrows.obj
          have HO := hid hown
          have lB : B ≤ W1.heap.size := by have := HK.out.size; have := HB.out; omega
          have lgb : gb < W1.heap.size := obj_lt HG.out.head
          have leb : eb < W1.heap.size := obj_lt HE.out
          have lbo : bo < W1.heap.size := obj_lt hrows.obj
          have m1 : gb ≠ bo := fun e => by have := HG.out.head; rw [e, hob.out] at this; simp at this
          have m2 : eb ≠ bo := fun e => by have := HE.out; rw [e, hob.out] at this; simp at this
          have m1' := Ne.symm m1
          have m2' := Ne.symm m2
          clear hrows hown hlen
          obtain ⟨i0, hi0, hz0, hz1, hz2⟩ := info_parts info_int
          have s2a : ∀ c t, (W1.alloc (.cells c t)).cell? ⟨bo, u, none⟩ = some (val vo u) := fun c t => by rw [World.cell?_alloc_lt _ _ _ lbo]; exact s2
          have s2d : ∀ c t, (W1.drew.alloc (.cells c t)).cell? ⟨bo, u, none⟩ = some (val vo u) := s2a
          refine wp_region_noPanic ?_
          refine wp_region_held_drew (S := (fun w' => w'.cell? ⟨gb, 1, none⟩ = some (.slice (some ⟨bo, 0, none⟩) n n) ∧ w'.cell? ⟨eb, 0, none⟩ = some (.int .i64 u) ∧ w'.cell? ⟨eb, 1, none⟩ = some (.int .i64 v))) (by kernel_rfl) ?hSa (fun hHeld => ?_)
          case hSa => (simp [*, World.cell?_alloc_some, World.cell?_setCell_far])
          refine wpAnyH_take (i := 0) (v := ?va0) rfl (by kernel_rfl) (by kernel_rfl) (by kernel_rfl) (fun _ _ _ h => h) (Or.inl ⟨by rfl, ?hya0⟩) (by assumption) ?resta0
          case hya0 => (intro w hSw; (try dsimp only at hSw); go_simp <;> with_reducible rfl)
          (try simp only [Act.put, List.setIfInBounds_toArray, List.set_cons_zero, List.set_cons_succ])
          refine wpAnyH_take (i := 1) (v := ?va1) rfl (by kernel_rfl) (by kernel_rfl) (by kernel_rfl) (fun _ _ _ h => h) (Or.inl ⟨by rfl, ?hya1⟩) (by assumption) ?resta1
          case hya1 => (intro w hSw; (try dsimp only at hSw); go_simp <;> with_reducible rfl)
          (try simp only [Act.put, List.setIfInBounds_toArray, List.set_cons_zero, List.set_cons_succ])
          refine wpAnyH_take (i := 2) (v := ?va2) rfl (by kernel_rfl) (by kernel_rfl) (by kernel_rfl) (fun _ _ _ h => h) (Or.inl ⟨by rfl, ?hya2⟩) (by assumption) ?resta2
          case hya2 => (intro w hSw; (try dsimp only at hSw); go_simp <;> with_reducible rfl)
          (try simp only [Act.put, List.setIfInBounds_toArray, List.set_cons_zero, List.set_cons_succ])
          refine wpAnyH_take (i := 3) (v := ?va3) rfl (by kernel_rfl) (by kernel_rfl) (by kernel_rfl) (fun _ _ _ h => h) (Or.inl ⟨by rfl, ?hya3⟩) (by assumption) ?resta3
          case hya3 => (intro w hSw; (try dsimp only at hSw); go_simp <;> with_reducible rfl)
          (try simp only [Act.put, List.setIfInBounds_toArray, List.set_cons_zero, List.set_cons_succ])
          refine wpAnyH_take (i := 4) (v := ?va4) rfl (by kernel_rfl) (by kernel_rfl) (by kernel_rfl) (fun _ _ _ h => h) (Or.inl ⟨by rfl, ?hya4⟩) (by assumption) ?resta4
          case hya4 => (intro w hSw; (try dsimp only at hSw); go_simp <;> with_reducible rfl)
          (try simp only [Act.put, List.setIfInBounds_toArray, List.set_cons_zero, List.set_cons_succ])
          refine wpAnyH_take (i := 5) (v := ?va5) rfl (by kernel_rfl) (by kernel_rfl) (by kernel_rfl) (fun _ _ _ h => h) (Or.inl ⟨by rfl, ?hya5⟩) (by assumption) ?resta5
          case hya5 => (intro w hSw; (try dsimp only at hSw); go_simp <;> with_reducible rfl)
          (try simp only [Act.put, List.setIfInBounds_toArray, List.set_cons_zero, List.set_cons_succ])
          refine wpAnyH_take (i := 6) (v := ?va6) rfl (by kernel_rfl) (by kernel_rfl) (by kernel_rfl) (fun _ _ _ h => h) (Or.inl ⟨by rfl, ?hya6⟩) (by assumption) ?resta6
          case hya6 => (intro w hSw; (try dsimp only at hSw); go_simp <;> with_reducible rfl)
          (try simp only [Act.put, List.setIfInBounds_toArray, List.set_cons_zero, List.set_cons_succ])
          refine wpAnyH_take (i := 7) (v := ?va7) rfl (by kernel_rfl) (by kernel_rfl) (by kernel_rfl) (fun _ _ _ h => h) (Or.inl ⟨by rfl, ?hya7⟩) (by assumption) ?resta7
          case hya7 => (intro w hSw; (try dsimp only at hSw); go_simp <;> with_reducible rfl)
          (try simp only [Act.put, List.setIfInBounds_toArray, List.set_cons_zero, List.set_cons_succ])
          refine wpAnyH_take (i := 8) (v := ?va8) rfl (by kernel_rfl) (by kernel_rfl) (by kernel_rfl) (fun _ _ _ h => h) (Or.inl ⟨by rfl, ?hya8⟩) (by assumption) ?resta8
          case hya8 => (intro w hSw; (try dsimp only at hSw); go_simp <;> with_reducible rfl)
          (try simp only [Act.put, List.setIfInBounds_toArray, List.set_cons_zero, List.set_cons_succ])
          refine wpAnyH_take (i := 10) (v := ?va10) rfl (by kernel_rfl) (by kernel_rfl) (by kernel_rfl) (fun _ _ _ h => h) (Or.inl ⟨by rfl, ?hya10⟩) (by assumption) ?resta10
          case hya10 => (intro w hSw; (try dsimp only at hSw); go_simp <;> with_reducible rfl)
          (try simp only [Act.put, List.setIfInBounds_toArray, List.set_cons_zero, List.set_cons_succ])
          refine wpAnyH_take (i := 11) (v := ?va11) rfl (by kernel_rfl) (by kernel_rfl) (by kernel_rfl) (fun _ _ _ h => h) (Or.inl ⟨by rfl, ?hya11⟩) (by assumption) ?resta11
          case hya11 => (intro w hSw; (try dsimp only at hSw); go_simp <;> with_reducible rfl)
          (try simp only [Act.put, List.setIfInBounds_toArray, List.set_cons_zero, List.set_cons_succ])
          refine wpAnyH_ready (rs := [9, 12]) (by kernel_rfl) (by simp) (AllReadyH.cons rfl (fun K hK => ?_) (AllReadyH.cons rfl (fun K hK => ?_) AllReadyH.nil))
          · go_simp
            refine hK.out _ _ ?_ (fun hHeld => ?_)
            · try dsimp only
              (first
                | (simp [*, World.cell?_alloc_some, World.cell?_setCell_far]; done)
                | (go_split_ands
                   refine ⟨?_, ?_, ?_⟩
                   · (rw [hgrow.cell_far _ (by simp; omega) (Ne.symm n1)]; assumption)
                   · (rw [hgrow.cell_far _ (by simp; omega) (Ne.symm n2)]; assumption)
                   · (rw [hgrow.cell_far _ (by simp; omega) (Ne.symm n2)]; assumption)))
            clear hK K
            (try simp only [Act.put, List.setIfInBounds_toArray, List.set_cons_zero, List.set_cons_succ])
            refine wpAnyH_ready (rs := [12]) (by kernel_rfl) (by simp) (AllReadyH.cons rfl (fun K hK => ?_) AllReadyH.nil)
            go_simp
            refine hK.out _ _ ?_ (fun hHeld => ?_)
            · try dsimp only
              (first
                | (simp [*, World.cell?_alloc_some, World.cell?_setCell_far]; done)
                | (go_split_ands
                   refine ⟨?_, ?_, ?_⟩
                   · (rw [hgrow.cell_far _ (by simp; omega) (Ne.symm n1)]; assumption)
                   · (rw [hgrow.cell_far _ (by simp; omega) (Ne.symm n2)]; assumption)
                   · (rw [hgrow.cell_far _ (by simp; omega) (Ne.symm n2)]; assumption)))
            clear hK K
            (try simp only [Act.put, List.setIfInBounds_toArray, List.set_cons_zero, List.set_cons_succ])
            refine wpAnyH_ready (rs := [13]) (by kernel_rfl) (by simp) (AllReadyH.cons rfl (fun K hK => ?_) AllReadyH.nil)
            (refine step_append_lies _ (by rfl) _ _ _ (by rfl) B 3 i0 _ 1 8 Tryz.underlying37 hi0 hz0 hz1 hz2 rfl (by omega) (val vo u) _ (intCells (row ro u)) (by rfl) ((HO.out.alloc _).drew) ⟨W1.heap.size, 0, none⟩ 1 1 [.int .i64 v] (by rfl) (by rfl) (World.news_of_block (cs := #[.int .i64 v]) (t := 3) (fr := (0, 0)) (heap_alloc_new W1 _)) (by simp [Value.oneCell']) (by omega) b63.out bby.out (by simp; omega) (W1.heap.size + 1) (by simp) ?_; intro gg cap w9 hown1 hgrow hat hlt9; have q1 : w9.cell? ⟨bo, u, none⟩ = some (val vo u) := (hgrow.cell_far ⟨bo, u, none⟩ (by simp; omega) (Ne.symm n4)).trans (s2a _ _); have q2 : w9.frozen? ⟨bo, u, none⟩ = false := (hgrow.frozen_far ⟨bo, u, none⟩ (by simp; omega) (Ne.symm n4)).trans ((frozen_ad _ _ _ _).trans s3))
            refine hK.out _ _ ?_ (fun hHeld => ?_)
            · try dsimp only
              (first
                | (simp [*, World.cell?_alloc_some, World.cell?_setCell_far]; done)
                | (go_split_ands
                   refine ⟨?_, ?_, ?_⟩
                   · (rw [hgrow.cell_far _ (by simp; omega) (Ne.symm n1)]; assumption)
                   · (rw [hgrow.cell_far _ (by simp; omega) (Ne.symm n2)]; assumption)
                   · (rw [hgrow.cell_far _ (by simp; omega) (Ne.symm n2)]; assumption)))
            clear hK K
            (try simp only [Act.put, List.setIfInBounds_toArray, List.set_cons_zero, List.set_cons_succ])
            refine wpAnyH_take (i := 14) (v := ?va14a) rfl (by kernel_rfl) (by kernel_rfl) (by kernel_rfl) (fun _ _ _ h => h) (Or.inl ⟨by rfl, ?hya14a⟩) (by assumption) ?resta14a
            case hya14a => (intro w hSw; (try dsimp only at hSw); go_simp <;> with_reducible rfl)
            (try simp only [Act.put, List.setIfInBounds_toArray, List.set_cons_zero, List.set_cons_succ])
            refine wpAnyH_ready (rs := [15]) (by kernel_rfl) (by simp) (AllReadyH.cons rfl (fun K hK => ?_) AllReadyH.nil)
            go_simp
            refine hK.out _ _ ?_ (fun hHeld => ?_)
            · try dsimp only
              (first
                | (simp [*, World.cell?_alloc_some, World.cell?_setCell_far]; done)
                | (go_split_ands
                   refine ⟨?_, ?_, ?_⟩
                   · (rw [hgrow.cell_far _ (by simp; omega) (Ne.symm n1)]; assumption)
                   · (rw [hgrow.cell_far _ (by simp; omega) (Ne.symm n2)]; assumption)
                   · (rw [hgrow.cell_far _ (by simp; omega) (Ne.symm n2)]; assumption)))
            clear hK K
            (try simp only [Act.put, List.setIfInBounds_toArray, List.set_cons_zero, List.set_cons_succ])
            refine wpAnyH_done (by kernel_rfl) ?_ _
            refine NoPanic.normal ?_
            have hfin := hid ((HG.out.ext (((Kept.refl [] W1).alloc (.cells #[.int .i64 v] 3)).drew)).pushOut (i := u) (x := v) hu hgrow rfl hown1 (by rcases hat with hh | hh; exact .inl hh; exact .inr (by rw [hh]; simp)))
            have hkf := hid (((HK.out.alloc (.cells #[.int .i64 v] 3)).drew.grown hgrow (fun j hj => .inr (by have := (HO.out.lt j hj).1; have := HB.out; omega))).setCell (p := ⟨bo, u, none⟩) (.inr (by have := HB.out; simp; omega)) (.slice (some ⟨gg, 0, none⟩) ((row ro u).length + 1) cap))
            have hrf := hid (stay (bo := bo) HRB.out hob.out hgrow (own_ne HO.out HRB.out (by decide)) (i := u) (nv := .slice (some ⟨gg, 0, none⟩) ((row ro u).length + 1) cap))
            have hef := hid (stay (bo := bo) HE.out hob.out hgrow (own_ne HO.out HE.out (by decide)) (i := u) (nv := .slice (some ⟨gg, 0, none⟩) ((row ro u).length + 1) cap))
            go_wp2_with fail
            go_meet
            exact ⟨_, hfin.out, hkf.out, hrf.out, hef.out⟩
          · go_simp
            refine hK.out _ _ ?_ (fun hHeld => ?_)
            · try dsimp only
              (first
                | (simp [*, World.cell?_alloc_some, World.cell?_setCell_far]; done)
                | (go_split_ands
                   refine ⟨?_, ?_, ?_⟩
                   · (rw [hgrow.cell_far _ (by simp; omega) (Ne.symm n1)]; assumption)
                   · (rw [hgrow.cell_far _ (by simp; omega) (Ne.symm n2)]; assumption)
                   · (rw [hgrow.cell_far _ (by simp; omega) (Ne.symm n2)]; assumption)))
            clear hK K
            (try simp only [Act.put, List.setIfInBounds_toArray, List.set_cons_zero, List.set_cons_succ])
            refine wpAnyH_ready (rs := [9]) (by kernel_rfl) (by simp) (AllReadyH.cons rfl (fun K hK => ?_) AllReadyH.nil)
            go_simp
            refine hK.out _ _ ?_ (fun hHeld => ?_)
            · try dsimp only
              (first
                | (simp [*, World.cell?_alloc_some, World.cell?_setCell_far]; done)
                | (go_split_ands
                   refine ⟨?_, ?_, ?_⟩
                   · (rw [hgrow.cell_far _ (by simp; omega) (Ne.symm n1)]; assumption)
                   · (rw [hgrow.cell_far _ (by simp; omega) (Ne.symm n2)]; assumption)
                   · (rw [hgrow.cell_far _ (by simp; omega) (Ne.symm n2)]; assumption)))
            clear hK K
            (try simp only [Act.put, List.setIfInBounds_toArray, List.set_cons_zero, List.set_cons_succ])
            refine wpAnyH_ready (rs := [13]) (by kernel_rfl) (by simp) (AllReadyH.cons rfl (fun K hK => ?_) AllReadyH.nil)
            (refine step_append_lies _ (by rfl) _ _ _ (by rfl) B 3 i0 _ 1 8 Tryz.underlying37 hi0 hz0 hz1 hz2 rfl (by omega) (val vo u) _ (intCells (row ro u)) (by rfl) ((HO.out.alloc _).drew) ⟨W1.heap.size, 0, none⟩ 1 1 [.int .i64 v] (by rfl) (by rfl) (World.news_of_block (cs := #[.int .i64 v]) (t := 3) (fr := (0, 0)) (heap_alloc_new W1 _)) (by simp [Value.oneCell']) (by omega) b63.out bby.out (by simp; omega) (W1.heap.size + 1) (by simp) ?_; intro gg cap w9 hown1 hgrow hat hlt9; have q1 : w9.cell? ⟨bo, u, none⟩ = some (val vo u) := (hgrow.cell_far ⟨bo, u, none⟩ (by simp; omega) (Ne.symm n4)).trans (s2a _ _); have q2 : w9.frozen? ⟨bo, u, none⟩ = false := (hgrow.frozen_far ⟨bo, u, none⟩ (by simp; omega) (Ne.symm n4)).trans ((frozen_ad _ _ _ _).trans s3))
            refine hK.out _ _ ?_ (fun hHeld => ?_)
            · try dsimp only
              (first
                | (simp [*, World.cell?_alloc_some, World.cell?_setCell_far]; done)
                | (go_split_ands
                   refine ⟨?_, ?_, ?_⟩
                   · (rw [hgrow.cell_far _ (by simp; omega) (Ne.symm n1)]; assumption)
                   · (rw [hgrow.cell_far _ (by simp; omega) (Ne.symm n2)]; assumption)
                   · (rw [hgrow.cell_far _ (by simp; omega) (Ne.symm n2)]; assumption)))
            clear hK K
            (try simp only [Act.put, List.setIfInBounds_toArray, List.set_cons_zero, List.set_cons_succ])
            refine wpAnyH_take (i := 14) (v := ?va14b) rfl (by kernel_rfl) (by kernel_rfl) (by kernel_rfl) (fun _ _ _ h => h) (Or.inl ⟨by rfl, ?hya14b⟩) (by assumption) ?resta14b
            case hya14b => (intro w hSw; (try dsimp only at hSw); go_simp <;> with_reducible rfl)
            (try simp only [Act.put, List.setIfInBounds_toArray, List.set_cons_zero, List.set_cons_succ])
            refine wpAnyH_ready (rs := [15]) (by kernel_rfl) (by simp) (AllReadyH.cons rfl (fun K hK => ?_) AllReadyH.nil)
            go_simp
            refine hK.out _ _ ?_ (fun hHeld => ?_)
            · try dsimp only
              (first
                | (simp [*, World.cell?_alloc_some, World.cell?_setCell_far]; done)
                | (go_split_ands
                   refine ⟨?_, ?_, ?_⟩
                   · (rw [hgrow.cell_far _ (by simp; omega) (Ne.symm n1)]; assumption)
                   · (rw [hgrow.cell_far _ (by simp; omega) (Ne.symm n2)]; assumption)
                   · (rw [hgrow.cell_far _ (by simp; omega) (Ne.symm n2)]; assumption)))
            clear hK K
            (try simp only [Act.put, List.setIfInBounds_toArray, List.set_cons_zero, List.set_cons_succ])
            refine wpAnyH_done (by kernel_rfl) ?_ _
            refine NoPanic.normal ?_
            have hfin := hid ((HG.out.ext (((Kept.refl [] W1).alloc (.cells #[.int .i64 v] 3)).drew)).pushOut (i := u) (x := v) hu hgrow rfl hown1 (by rcases hat with hh | hh; exact .inl hh; exact .inr (by rw [hh]; simp)))
            have hkf := hid (((HK.out.alloc (.cells #[.int .i64 v] 3)).drew.grown hgrow (fun j hj => .inr (by have := (HO.out.lt j hj).1; have := HB.out; omega))).setCell (p := ⟨bo, u, none⟩) (.inr (by have := HB.out; simp; omega)) (.slice (some ⟨gg, 0, none⟩) ((row ro u).length + 1) cap))
            have hrf := hid (stay (bo := bo) HRB.out hob.out hgrow (own_ne HO.out HRB.out (by decide)) (i := u) (nv := .slice (some ⟨gg, 0, none⟩) ((row ro u).length + 1) cap))
            have hef := hid (stay (bo := bo) HE.out hob.out hgrow (own_ne HO.out HE.out (by decide)) (i := u) (nv := .slice (some ⟨gg, 0, none⟩) ((row ro u).length + 1) cap))
            go_wp2_with fail
            go_meet
            exact ⟨_, hfin.out, hkf.out, hrf.out, hef.out⟩
        case rest =>
          obtain ⟨nv1, hG', hK', hr', he'⟩ := hcut
          obtain ⟨vo2, hvo2⟩ : ∃ x, x = vo.set u nv1 := ⟨_, rfl⟩
          obtain ⟨ro2, hro2⟩ : ∃ x, x = ro.set u (row ro u ++ [v]) := ⟨_, rfl⟩
          rw [← hvo2, ← hro2] at hG'
          rw [← hro2] at HRO
          clear HK HG HRB HE hvo2 hro2
          have HK := hid hK'
          have HG := hid hG'
          have HRB := hid hr'
          have HE := hid he'
          clear hG' hK' hr' he'
          go_wp2_with fail
          go_cut [] (fun wx => ∃ nv, Gr wx gb bo ba B n vo2 (va.set u nv) ro2 (ra.set u (row ra u ++ [v])) ∧ Kept [] w wx ∧ wx.heap[rb]? = some (.cells #[.int .i64 0, .slice none 0 0, .slice none 0 0] 96 (0, 0)) ∧ wx.heap[eb]? = some (.cells #[.int .i64 (u : Int), .int .i64 (v : Int)] 59 (0, 0)))
          case first =>
            have hrows := HG.out.all
            have hlen : ra.length = n := HG.out.la
            have hown := hrows.own u (by rw [hlen]; exact hu)
            have s1 : wc.cell? ⟨gb, 2, none⟩ = some (.slice (some ⟨ba, 0, none⟩) n n) := cell_of_obj HG.out.head 2
            have s2 := hrows.cell (i := u) (by rw [hlen]; exact hu)
            have s3 := hrows.free u
            have s4 : wc.cell? ⟨eb, 0, none⟩ = some (.int .i64 u) := cell_of_obj HE.out 0
            have s5 : wc.cell? ⟨eb, 1, none⟩ = some (.int .i64 v) := cell_of_obj HE.out 1
            have n1 := own_ne hown HG.out.head (by decide)
            have n2 := own_ne hown HE.out (by decide)
            have n4 := own_ne hown hrows.obj (by decide)
            have hrl : (row ra u).length ≤ 1000 := by have := HL.out.2 u; omega
            have b63 := hid (show (row ra u).length + 1 ≤ maxLen by unfold maxLen; omega)
            have bby := hid (show ((row ra u).length + 1) * 8 ≤ 140737488355328 by omega)
            have hob := hid hrows.obj
            have HO := hid hown
            have lB : B ≤ wc.heap.size := by have := HK.out.size; have := HB.out; omega
            have lgb : gb < wc.heap.size := obj_lt HG.out.head
            have leb : eb < wc.heap.size := obj_lt HE.out
            have lbo : ba < wc.heap.size := obj_lt hrows.obj
            have m1 : gb ≠ ba := fun e => by have := HG.out.head; rw [e, hob.out] at this; simp at this
            have m2 : eb ≠ ba := fun e => by have := HE.out; rw [e, hob.out] at this; simp at this
            have m1' := Ne.symm m1
            have m2' := Ne.symm m2
            clear hrows hown hlen
            obtain ⟨i0, hi0, hz0, hz1, hz2⟩ := info_parts info_int
            have s2a : ∀ c t, (wc.alloc (.cells c t)).cell? ⟨ba, u, none⟩ = some (val va u) := fun c t => by rw [World.cell?_alloc_lt _ _ _ lbo]; exact s2
            have s2d : ∀ c t, (wc.drew.alloc (.cells c t)).cell? ⟨ba, u, none⟩ = some (val va u) := s2a
            refine wp_region_noPanic ?_
            refine wp_region_held_drew (S := (fun w' => w'.cell? ⟨gb, 2, none⟩ = some (.slice (some ⟨ba, 0, none⟩) n n) ∧ w'.cell? ⟨eb, 0, none⟩ = some (.int .i64 u) ∧ w'.cell? ⟨eb, 1, none⟩ = some (.int .i64 v))) (by kernel_rfl) ?hSb (fun hHeld => ?_)
            case hSb => (simp [*, World.cell?_alloc_some, World.cell?_setCell_far])
            refine wpAnyH_take (i := 0) (v := ?vb0) rfl (by kernel_rfl) (by kernel_rfl) (by kernel_rfl) (fun _ _ _ h => h) (Or.inl ⟨by rfl, ?hyb0⟩) (by assumption) ?restb0
            case hyb0 => (intro w hSw; (try dsimp only at hSw); go_simp <;> with_reducible rfl)
            (try simp only [Act.put, List.setIfInBounds_toArray, List.set_cons_zero, List.set_cons_succ])
            refine wpAnyH_take (i := 1) (v := ?vb1) rfl (by kernel_rfl) (by kernel_rfl) (by kernel_rfl) (fun _ _ _ h => h) (Or.inl ⟨by rfl, ?hyb1⟩) (by assumption) ?restb1
            case hyb1 => (intro w hSw; (try dsimp only at hSw); go_simp <;> with_reducible rfl)
            (try simp only [Act.put, List.setIfInBounds_toArray, List.set_cons_zero, List.set_cons_succ])
            refine wpAnyH_take (i := 2) (v := ?vb2) rfl (by kernel_rfl) (by kernel_rfl) (by kernel_rfl) (fun _ _ _ h => h) (Or.inl ⟨by rfl, ?hyb2⟩) (by assumption) ?restb2
            case hyb2 => (intro w hSw; (try dsimp only at hSw); go_simp <;> with_reducible rfl)
            (try simp only [Act.put, List.setIfInBounds_toArray, List.set_cons_zero, List.set_cons_succ])
            refine wpAnyH_take (i := 3) (v := ?vb3) rfl (by kernel_rfl) (by kernel_rfl) (by kernel_rfl) (fun _ _ _ h => h) (Or.inl ⟨by rfl, ?hyb3⟩) (by assumption) ?restb3
            case hyb3 => (intro w hSw; (try dsimp only at hSw); go_simp <;> with_reducible rfl)
            (try simp only [Act.put, List.setIfInBounds_toArray, List.set_cons_zero, List.set_cons_succ])
            refine wpAnyH_take (i := 4) (v := ?vb4) rfl (by kernel_rfl) (by kernel_rfl) (by kernel_rfl) (fun _ _ _ h => h) (Or.inl ⟨by rfl, ?hyb4⟩) (by assumption) ?restb4
            case hyb4 => (intro w hSw; (try dsimp only at hSw); go_simp <;> with_reducible rfl)
            (try simp only [Act.put, List.setIfInBounds_toArray, List.set_cons_zero, List.set_cons_succ])
            refine wpAnyH_take (i := 5) (v := ?vb5) rfl (by kernel_rfl) (by kernel_rfl) (by kernel_rfl) (fun _ _ _ h => h) (Or.inl ⟨by rfl, ?hyb5⟩) (by assumption) ?restb5
            case hyb5 => (intro w hSw; (try dsimp only at hSw); go_simp <;> with_reducible rfl)
            (try simp only [Act.put, List.setIfInBounds_toArray, List.set_cons_zero, List.set_cons_succ])
            refine wpAnyH_take (i := 6) (v := ?vb6) rfl (by kernel_rfl) (by kernel_rfl) (by kernel_rfl) (fun _ _ _ h => h) (Or.inl ⟨by rfl, ?hyb6⟩) (by assumption) ?restb6
            case hyb6 => (intro w hSw; (try dsimp only at hSw); go_simp <;> with_reducible rfl)
            (try simp only [Act.put, List.setIfInBounds_toArray, List.set_cons_zero, List.set_cons_succ])
            refine wpAnyH_take (i := 7) (v := ?vb7) rfl (by kernel_rfl) (by kernel_rfl) (by kernel_rfl) (fun _ _ _ h => h) (Or.inl ⟨by rfl, ?hyb7⟩) (by assumption) ?restb7
            case hyb7 => (intro w hSw; (try dsimp only at hSw); go_simp <;> with_reducible rfl)
            (try simp only [Act.put, List.setIfInBounds_toArray, List.set_cons_zero, List.set_cons_succ])
            refine wpAnyH_take (i := 8) (v := ?vb8) rfl (by kernel_rfl) (by kernel_rfl) (by kernel_rfl) (fun _ _ _ h => h) (Or.inl ⟨by rfl, ?hyb8⟩) (by assumption) ?restb8
            case hyb8 => (intro w hSw; (try dsimp only at hSw); go_simp <;> with_reducible rfl)
            (try simp only [Act.put, List.setIfInBounds_toArray, List.set_cons_zero, List.set_cons_succ])
            refine wpAnyH_take (i := 10) (v := ?vb10) rfl (by kernel_rfl) (by kernel_rfl) (by kernel_rfl) (fun _ _ _ h => h) (Or.inl ⟨by rfl, ?hyb10⟩) (by assumption) ?restb10
            case hyb10 => (intro w hSw; (try dsimp only at hSw); go_simp <;> with_reducible rfl)
            (try simp only [Act.put, List.setIfInBounds_toArray, List.set_cons_zero, List.set_cons_succ])
            refine wpAnyH_take (i := 11) (v := ?vb11) rfl (by kernel_rfl) (by kernel_rfl) (by kernel_rfl) (fun _ _ _ h => h) (Or.inl ⟨by rfl, ?hyb11⟩) (by assumption) ?restb11
            case hyb11 => (intro w hSw; (try dsimp only at hSw); go_simp <;> with_reducible rfl)
            (try simp only [Act.put, List.setIfInBounds_toArray, List.set_cons_zero, List.set_cons_succ])
            refine wpAnyH_ready (rs := [9, 12]) (by kernel_rfl) (by simp) (AllReadyH.cons rfl (fun K hK => ?_) (AllReadyH.cons rfl (fun K hK => ?_) AllReadyH.nil))
            · go_simp
              refine hK.out _ _ ?_ (fun hHeld => ?_)
              · try dsimp only
                (first
                  | (simp [*, World.cell?_alloc_some, World.cell?_setCell_far]; done)
                  | (go_split_ands
                     refine ⟨?_, ?_, ?_⟩
                     · (rw [hgrow.cell_far _ (by simp; omega) (Ne.symm n1)]; assumption)
                     · (rw [hgrow.cell_far _ (by simp; omega) (Ne.symm n2)]; assumption)
                     · (rw [hgrow.cell_far _ (by simp; omega) (Ne.symm n2)]; assumption)))
              clear hK K
              (try simp only [Act.put, List.setIfInBounds_toArray, List.set_cons_zero, List.set_cons_succ])
              refine wpAnyH_ready (rs := [12]) (by kernel_rfl) (by simp) (AllReadyH.cons rfl (fun K hK => ?_) AllReadyH.nil)
              go_simp
              refine hK.out _ _ ?_ (fun hHeld => ?_)
              · try dsimp only
                (first
                  | (simp [*, World.cell?_alloc_some, World.cell?_setCell_far]; done)
                  | (go_split_ands
                     refine ⟨?_, ?_, ?_⟩
                     · (rw [hgrow.cell_far _ (by simp; omega) (Ne.symm n1)]; assumption)
                     · (rw [hgrow.cell_far _ (by simp; omega) (Ne.symm n2)]; assumption)
                     · (rw [hgrow.cell_far _ (by simp; omega) (Ne.symm n2)]; assumption)))
              clear hK K
              (try simp only [Act.put, List.setIfInBounds_toArray, List.set_cons_zero, List.set_cons_succ])
              refine wpAnyH_ready (rs := [13]) (by kernel_rfl) (by simp) (AllReadyH.cons rfl (fun K hK => ?_) AllReadyH.nil)
              (refine step_append_lies _ (by rfl) _ _ _ (by rfl) B 3 i0 _ 1 8 Tryz.underlying37 hi0 hz0 hz1 hz2 rfl (by omega) (val va u) _ (intCells (row ra u)) (by rfl) ((HO.out.alloc _).drew) ⟨wc.heap.size, 0, none⟩ 1 1 [.int .i64 v] (by rfl) (by rfl) (World.news_of_block (cs := #[.int .i64 v]) (t := 3) (fr := (0, 0)) (heap_alloc_new wc _)) (by simp [Value.oneCell']) (by omega) b63.out bby.out (by simp; omega) (wc.heap.size + 1) (by simp) ?_; intro gg cap w9 hown1 hgrow hat hlt9; have q1 : w9.cell? ⟨ba, u, none⟩ = some (val va u) := (hgrow.cell_far ⟨ba, u, none⟩ (by simp; omega) (Ne.symm n4)).trans (s2a _ _); have q2 : w9.frozen? ⟨ba, u, none⟩ = false := (hgrow.frozen_far ⟨ba, u, none⟩ (by simp; omega) (Ne.symm n4)).trans ((frozen_ad _ _ _ _).trans s3))
              refine hK.out _ _ ?_ (fun hHeld => ?_)
              · try dsimp only
                (first
                  | (simp [*, World.cell?_alloc_some, World.cell?_setCell_far]; done)
                  | (go_split_ands
                     refine ⟨?_, ?_, ?_⟩
                     · (rw [hgrow.cell_far _ (by simp; omega) (Ne.symm n1)]; assumption)
                     · (rw [hgrow.cell_far _ (by simp; omega) (Ne.symm n2)]; assumption)
                     · (rw [hgrow.cell_far _ (by simp; omega) (Ne.symm n2)]; assumption)))
              clear hK K
              (try simp only [Act.put, List.setIfInBounds_toArray, List.set_cons_zero, List.set_cons_succ])
              refine wpAnyH_take (i := 14) (v := ?vb14a) rfl (by kernel_rfl) (by kernel_rfl) (by kernel_rfl) (fun _ _ _ h => h) (Or.inl ⟨by rfl, ?hyb14a⟩) (by assumption) ?restb14a
              case hyb14a => (intro w hSw; (try dsimp only at hSw); go_simp <;> with_reducible rfl)
              (try simp only [Act.put, List.setIfInBounds_toArray, List.set_cons_zero, List.set_cons_succ])
              refine wpAnyH_ready (rs := [15]) (by kernel_rfl) (by simp) (AllReadyH.cons rfl (fun K hK => ?_) AllReadyH.nil)
              go_simp
              refine hK.out _ _ ?_ (fun hHeld => ?_)
              · try dsimp only
                (first
                  | (simp [*, World.cell?_alloc_some, World.cell?_setCell_far]; done)
                  | (go_split_ands
                     refine ⟨?_, ?_, ?_⟩
                     · (rw [hgrow.cell_far _ (by simp; omega) (Ne.symm n1)]; assumption)
                     · (rw [hgrow.cell_far _ (by simp; omega) (Ne.symm n2)]; assumption)
                     · (rw [hgrow.cell_far _ (by simp; omega) (Ne.symm n2)]; assumption)))
              clear hK K
              (try simp only [Act.put, List.setIfInBounds_toArray, List.set_cons_zero, List.set_cons_succ])
              refine wpAnyH_done (by kernel_rfl) ?_ _
              refine NoPanic.normal ?_
              have hfin := hid ((HG.out.ext (((Kept.refl [] wc).alloc (.cells #[.int .i64 v] 3)).drew)).pushAll (i := u) (x := v) hu hgrow rfl hown1 (by rcases hat with hh | hh; exact .inl hh; exact .inr (by rw [hh]; simp)))
              have hkf := hid (((HK.out.alloc (.cells #[.int .i64 v] 3)).drew.grown hgrow (fun j hj => .inr (by have := (HO.out.lt j hj).1; have := HB.out; omega))).setCell (p := ⟨ba, u, none⟩) (.inr (by have := HB.out; simp; omega)) (.slice (some ⟨gg, 0, none⟩) ((row ra u).length + 1) cap))
              have hrf := hid (stay (bo := ba) HRB.out hob.out hgrow (own_ne HO.out HRB.out (by decide)) (i := u) (nv := .slice (some ⟨gg, 0, none⟩) ((row ra u).length + 1) cap))
              have hef := hid (stay (bo := ba) HE.out hob.out hgrow (own_ne HO.out HE.out (by decide)) (i := u) (nv := .slice (some ⟨gg, 0, none⟩) ((row ra u).length + 1) cap))
              go_wp2_with fail
              go_meet
              exact ⟨_, hfin.out, hkf.out, hrf.out, hef.out⟩
            · go_simp
              refine hK.out _ _ ?_ (fun hHeld => ?_)
              · try dsimp only
                (first
                  | (simp [*, World.cell?_alloc_some, World.cell?_setCell_far]; done)
                  | (go_split_ands
                     refine ⟨?_, ?_, ?_⟩
                     · (rw [hgrow.cell_far _ (by simp; omega) (Ne.symm n1)]; assumption)
                     · (rw [hgrow.cell_far _ (by simp; omega) (Ne.symm n2)]; assumption)
                     · (rw [hgrow.cell_far _ (by simp; omega) (Ne.symm n2)]; assumption)))
              clear hK K
              (try simp only [Act.put, List.setIfInBounds_toArray, List.set_cons_zero, List.set_cons_succ])
              refine wpAnyH_ready (rs := [9]) (by kernel_rfl) (by simp) (AllReadyH.cons rfl (fun K hK => ?_) AllReadyH.nil)
              go_simp
              refine hK.out _ _ ?_ (fun hHeld => ?_)
              · try dsimp only
                (first
                  | (simp [*, World.cell?_alloc_some, World.cell?_setCell_far]; done)
                  | (go_split_ands
                     refine ⟨?_, ?_, ?_⟩
                     · (rw [hgrow.cell_far _ (by simp; omega) (Ne.symm n1)]; assumption)
                     · (rw [hgrow.cell_far _ (by simp; omega) (Ne.symm n2)]; assumption)
                     · (rw [hgrow.cell_far _ (by simp; omega) (Ne.symm n2)]; assumption)))
              clear hK K
              (try simp only [Act.put, List.setIfInBounds_toArray, List.set_cons_zero, List.set_cons_succ])
              refine wpAnyH_ready (rs := [13]) (by kernel_rfl) (by simp) (AllReadyH.cons rfl (fun K hK => ?_) AllReadyH.nil)
              (refine step_append_lies _ (by rfl) _ _ _ (by rfl) B 3 i0 _ 1 8 Tryz.underlying37 hi0 hz0 hz1 hz2 rfl (by omega) (val va u) _ (intCells (row ra u)) (by rfl) ((HO.out.alloc _).drew) ⟨wc.heap.size, 0, none⟩ 1 1 [.int .i64 v] (by rfl) (by rfl) (World.news_of_block (cs := #[.int .i64 v]) (t := 3) (fr := (0, 0)) (heap_alloc_new wc _)) (by simp [Value.oneCell']) (by omega) b63.out bby.out (by simp; omega) (wc.heap.size + 1) (by simp) ?_; intro gg cap w9 hown1 hgrow hat hlt9; have q1 : w9.cell? ⟨ba, u, none⟩ = some (val va u) := (hgrow.cell_far ⟨ba, u, none⟩ (by simp; omega) (Ne.symm n4)).trans (s2a _ _); have q2 : w9.frozen? ⟨ba, u, none⟩ = false := (hgrow.frozen_far ⟨ba, u, none⟩ (by simp; omega) (Ne.symm n4)).trans ((frozen_ad _ _ _ _).trans s3))
              refine hK.out _ _ ?_ (fun hHeld => ?_)
              · try dsimp only
                (first
                  | (simp [*, World.cell?_alloc_some, World.cell?_setCell_far]; done)
                  | (go_split_ands
                     refine ⟨?_, ?_, ?_⟩
                     · (rw [hgrow.cell_far _ (by simp; omega) (Ne.symm n1)]; assumption)
                     · (rw [hgrow.cell_far _ (by simp; omega) (Ne.symm n2)]; assumption)
                     · (rw [hgrow.cell_far _ (by simp; omega) (Ne.symm n2)]; assumption)))
              clear hK K
              (try simp only [Act.put, List.setIfInBounds_toArray, List.set_cons_zero, List.set_cons_succ])
              refine wpAnyH_take (i := 14) (v := ?vb14b) rfl (by kernel_rfl) (by kernel_rfl) (by kernel_rfl) (fun _ _ _ h => h) (Or.inl ⟨by rfl, ?hyb14b⟩) (by assumption) ?restb14b
              case hyb14b => (intro w hSw; (try dsimp only at hSw); go_simp <;> with_reducible rfl)
              (try simp only [Act.put, List.setIfInBounds_toArray, List.set_cons_zero, List.set_cons_succ])
              refine wpAnyH_ready (rs := [15]) (by kernel_rfl) (by simp) (AllReadyH.cons rfl (fun K hK => ?_) AllReadyH.nil)
              go_simp
              refine hK.out _ _ ?_ (fun hHeld => ?_)
              · try dsimp only
                (first
                  | (simp [*, World.cell?_alloc_some, World.cell?_setCell_far]; done)
                  | (go_split_ands
                     refine ⟨?_, ?_, ?_⟩
                     · (rw [hgrow.cell_far _ (by simp; omega) (Ne.symm n1)]; assumption)
                     · (rw [hgrow.cell_far _ (by simp; omega) (Ne.symm n2)]; assumption)
                     · (rw [hgrow.cell_far _ (by simp; omega) (Ne.symm n2)]; assumption)))
              clear hK K
              (try simp only [Act.put, List.setIfInBounds_toArray, List.set_cons_zero, List.set_cons_succ])
              refine wpAnyH_done (by kernel_rfl) ?_ _
              refine NoPanic.normal ?_
              have hfin := hid ((HG.out.ext (((Kept.refl [] wc).alloc (.cells #[.int .i64 v] 3)).drew)).pushAll (i := u) (x := v) hu hgrow rfl hown1 (by rcases hat with hh | hh; exact .inl hh; exact .inr (by rw [hh]; simp)))
              have hkf := hid (((HK.out.alloc (.cells #[.int .i64 v] 3)).drew.grown hgrow (fun j hj => .inr (by have := (HO.out.lt j hj).1; have := HB.out; omega))).setCell (p := ⟨ba, u, none⟩) (.inr (by have := HB.out; simp; omega)) (.slice (some ⟨gg, 0, none⟩) ((row ra u).length + 1) cap))
              have hrf := hid (stay (bo := ba) HRB.out hob.out hgrow (own_ne HO.out HRB.out (by decide)) (i := u) (nv := .slice (some ⟨gg, 0, none⟩) ((row ra u).length + 1) cap))
              have hef := hid (stay (bo := ba) HE.out hob.out hgrow (own_ne HO.out HE.out (by decide)) (i := u) (nv := .slice (some ⟨gg, 0, none⟩) ((row ra u).length + 1) cap))
              go_wp2_with fail
              go_meet
              exact ⟨_, hfin.out, hkf.out, hrf.out, hef.out⟩
          case rest =>
            obtain ⟨nv2, hG', hK', hr', he'⟩ := hcut
            have HL2 := hid (show ∀ j, (row (ra.set u (row ra u ++ [v])) j).length ≤ 601 from pushR_bound HL.out.2 (by rw [HG.out.la]; exact hu))
            obtain ⟨va2, hva2⟩ : ∃ x, x = va.set u nv2 := ⟨_, rfl⟩
            obtain ⟨ra2, hra2⟩ : ∃ x, x = ra.set u (row ra u ++ [v]) := ⟨_, rfl⟩
            rw [← hva2, ← hra2] at hG'
            rw [← hra2] at HRA HL2
            clear HK HG HRB HE hva2 hra2
            have HK := hid hK'
            have HG := hid hG'
            have HRB := hid hr'
            have HE := hid he'
            clear hG' hK' hr' he'
            go_wp2_with fail
            have hrows := HG.out.all
            have hlen : ra2.length = n := HG.out.la
            have hown := hrows.own v (by rw [hlen]; exact hv)
            have s1 : wc.cell? ⟨gb, 2, none⟩ = some (.slice (some ⟨ba, 0, none⟩) n n) := cell_of_obj HG.out.head 2
            have s2 := hrows.cell (i := v) (by rw [hlen]; exact hv)
            have s3 := hrows.free v
            have s4 : wc.cell? ⟨eb, 0, none⟩ = some (.int .i64 u) := cell_of_obj HE.out 0
            have s5 : wc.cell? ⟨eb, 1, none⟩ = some (.int .i64 v) := cell_of_obj HE.out 1
            have n1 := own_ne hown HG.out.head (by decide)
            have n2 := own_ne hown HE.out (by decide)
            have n4 := own_ne hown hrows.obj (by decide)
            have hrl : (row ra2 v).length ≤ 1000 := by have := HL2.out v; omega
            have b63 := hid (show (row ra2 v).length + 1 ≤ maxLen by unfold maxLen; omega)
            have bby := hid (show ((row ra2 v).length + 1) * 8 ≤ 140737488355328 by omega)
            have hob := hid hrows.obj
            have HO := hid hown
            have lB : B ≤ wc.heap.size := by have := HK.out.size; have := HB.out; omega
            have lgb : gb < wc.heap.size := obj_lt HG.out.head
            have leb : eb < wc.heap.size := obj_lt HE.out
            have lbo : ba < wc.heap.size := obj_lt hrows.obj
            have m1 : gb ≠ ba := fun e => by have := HG.out.head; rw [e, hob.out] at this; simp at this
            have m2 : eb ≠ ba := fun e => by have := HE.out; rw [e, hob.out] at this; simp at this
            have m1' := Ne.symm m1
            have m2' := Ne.symm m2
            clear hrows hown hlen
            obtain ⟨i0, hi0, hz0, hz1, hz2⟩ := info_parts info_int
            have s2a : ∀ c t, (wc.alloc (.cells c t)).cell? ⟨ba, v, none⟩ = some (val va2 v) := fun c t => by rw [World.cell?_alloc_lt _ _ _ lbo]; exact s2
            have s2d : ∀ c t, (wc.drew.alloc (.cells c t)).cell? ⟨ba, v, none⟩ = some (val va2 v) := s2a
            refine wp_region_noPanic ?_
            refine wp_region_held_drew (S := (fun w' => w'.cell? ⟨gb, 2, none⟩ = some (.slice (some ⟨ba, 0, none⟩) n n) ∧ w'.cell? ⟨eb, 0, none⟩ = some (.int .i64 u) ∧ w'.cell? ⟨eb, 1, none⟩ = some (.int .i64 v))) (by kernel_rfl) ?hSc (fun hHeld => ?_)
            case hSc => (simp [*, World.cell?_alloc_some, World.cell?_setCell_far])
            refine wpAnyH_take (i := 0) (v := ?vc0) rfl (by kernel_rfl) (by kernel_rfl) (by kernel_rfl) (fun _ _ _ h => h) (Or.inl ⟨by rfl, ?hyc0⟩) (by assumption) ?restc0
            case hyc0 => (intro w hSw; (try dsimp only at hSw); go_simp <;> with_reducible rfl)
            (try simp only [Act.put, List.setIfInBounds_toArray, List.set_cons_zero, List.set_cons_succ])
            refine wpAnyH_take (i := 1) (v := ?vc1) rfl (by kernel_rfl) (by kernel_rfl) (by kernel_rfl) (fun _ _ _ h => h) (Or.inl ⟨by rfl, ?hyc1⟩) (by assumption) ?restc1
            case hyc1 => (intro w hSw; (try dsimp only at hSw); go_simp <;> with_reducible rfl)
            (try simp only [Act.put, List.setIfInBounds_toArray, List.set_cons_zero, List.set_cons_succ])
            refine wpAnyH_take (i := 2) (v := ?vc2) rfl (by kernel_rfl) (by kernel_rfl) (by kernel_rfl) (fun _ _ _ h => h) (Or.inl ⟨by rfl, ?hyc2⟩) (by assumption) ?restc2
            case hyc2 => (intro w hSw; (try dsimp only at hSw); go_simp <;> with_reducible rfl)
            (try simp only [Act.put, List.setIfInBounds_toArray, List.set_cons_zero, List.set_cons_succ])
            refine wpAnyH_take (i := 3) (v := ?vc3) rfl (by kernel_rfl) (by kernel_rfl) (by kernel_rfl) (fun _ _ _ h => h) (Or.inl ⟨by rfl, ?hyc3⟩) (by assumption) ?restc3
            case hyc3 => (intro w hSw; (try dsimp only at hSw); go_simp <;> with_reducible rfl)
            (try simp only [Act.put, List.setIfInBounds_toArray, List.set_cons_zero, List.set_cons_succ])
            refine wpAnyH_take (i := 4) (v := ?vc4) rfl (by kernel_rfl) (by kernel_rfl) (by kernel_rfl) (fun _ _ _ h => h) (Or.inl ⟨by rfl, ?hyc4⟩) (by assumption) ?restc4
            case hyc4 => (intro w hSw; (try dsimp only at hSw); go_simp <;> with_reducible rfl)
            (try simp only [Act.put, List.setIfInBounds_toArray, List.set_cons_zero, List.set_cons_succ])
            refine wpAnyH_take (i := 5) (v := ?vc5) rfl (by kernel_rfl) (by kernel_rfl) (by kernel_rfl) (fun _ _ _ h => h) (Or.inl ⟨by rfl, ?hyc5⟩) (by assumption) ?restc5
            case hyc5 => (intro w hSw; (try dsimp only at hSw); go_simp <;> with_reducible rfl)
            (try simp only [Act.put, List.setIfInBounds_toArray, List.set_cons_zero, List.set_cons_succ])
            refine wpAnyH_take (i := 6) (v := ?vc6) rfl (by kernel_rfl) (by kernel_rfl) (by kernel_rfl) (fun _ _ _ h => h) (Or.inl ⟨by rfl, ?hyc6⟩) (by assumption) ?restc6
            case hyc6 => (intro w hSw; (try dsimp only at hSw); go_simp <;> with_reducible rfl)
            (try simp only [Act.put, List.setIfInBounds_toArray, List.set_cons_zero, List.set_cons_succ])
            refine wpAnyH_take (i := 7) (v := ?vc7) rfl (by kernel_rfl) (by kernel_rfl) (by kernel_rfl) (fun _ _ _ h => h) (Or.inl ⟨by rfl, ?hyc7⟩) (by assumption) ?restc7
            case hyc7 => (intro w hSw; (try dsimp only at hSw); go_simp <;> with_reducible rfl)
            (try simp only [Act.put, List.setIfInBounds_toArray, List.set_cons_zero, List.set_cons_succ])
            refine wpAnyH_take (i := 8) (v := ?vc8) rfl (by kernel_rfl) (by kernel_rfl) (by kernel_rfl) (fun _ _ _ h => h) (Or.inl ⟨by rfl, ?hyc8⟩) (by assumption) ?restc8
            case hyc8 => (intro w hSw; (try dsimp only at hSw); go_simp <;> with_reducible rfl)
            (try simp only [Act.put, List.setIfInBounds_toArray, List.set_cons_zero, List.set_cons_succ])
            refine wpAnyH_take (i := 10) (v := ?vc10) rfl (by kernel_rfl) (by kernel_rfl) (by kernel_rfl) (fun _ _ _ h => h) (Or.inl ⟨by rfl, ?hyc10⟩) (by assumption) ?restc10
            case hyc10 => (intro w hSw; (try dsimp only at hSw); go_simp <;> with_reducible rfl)
            (try simp only [Act.put, List.setIfInBounds_toArray, List.set_cons_zero, List.set_cons_succ])
            refine wpAnyH_take (i := 11) (v := ?vc11) rfl (by kernel_rfl) (by kernel_rfl) (by kernel_rfl) (fun _ _ _ h => h) (Or.inl ⟨by rfl, ?hyc11⟩) (by assumption) ?restc11
            case hyc11 => (intro w hSw; (try dsimp only at hSw); go_simp <;> with_reducible rfl)
            (try simp only [Act.put, List.setIfInBounds_toArray, List.set_cons_zero, List.set_cons_succ])
            refine wpAnyH_ready (rs := [9, 12]) (by kernel_rfl) (by simp) (AllReadyH.cons rfl (fun K hK => ?_) (AllReadyH.cons rfl (fun K hK => ?_) AllReadyH.nil))
            · go_simp
              refine hK.out _ _ ?_ (fun hHeld => ?_)
              · try dsimp only
                (first
                  | (simp [*, World.cell?_alloc_some, World.cell?_setCell_far]; done)
                  | (go_split_ands
                     refine ⟨?_, ?_, ?_⟩
                     · (rw [hgrow.cell_far _ (by simp; omega) (Ne.symm n1)]; assumption)
                     · (rw [hgrow.cell_far _ (by simp; omega) (Ne.symm n2)]; assumption)
                     · (rw [hgrow.cell_far _ (by simp; omega) (Ne.symm n2)]; assumption)))
              clear hK K
              (try simp only [Act.put, List.setIfInBounds_toArray, List.set_cons_zero, List.set_cons_succ])
              refine wpAnyH_ready (rs := [12]) (by kernel_rfl) (by simp) (AllReadyH.cons rfl (fun K hK => ?_) AllReadyH.nil)
              go_simp
              refine hK.out _ _ ?_ (fun hHeld => ?_)
              · try dsimp only
                (first
                  | (simp [*, World.cell?_alloc_some, World.cell?_setCell_far]; done)
                  | (go_split_ands
                     refine ⟨?_, ?_, ?_⟩
                     · (rw [hgrow.cell_far _ (by simp; omega) (Ne.symm n1)]; assumption)
                     · (rw [hgrow.cell_far _ (by simp; omega) (Ne.symm n2)]; assumption)
                     · (rw [hgrow.cell_far _ (by simp; omega) (Ne.symm n2)]; assumption)))
              clear hK K
              (try simp only [Act.put, List.setIfInBounds_toArray, List.set_cons_zero, List.set_cons_succ])
              refine wpAnyH_ready (rs := [13]) (by kernel_rfl) (by simp) (AllReadyH.cons rfl (fun K hK => ?_) AllReadyH.nil)
              (refine step_append_lies _ (by rfl) _ _ _ (by rfl) B 3 i0 _ 1 8 Tryz.underlying37 hi0 hz0 hz1 hz2 rfl (by omega) (val va2 v) _ (intCells (row ra2 v)) (by rfl) ((HO.out.alloc _).drew) ⟨wc.heap.size, 0, none⟩ 1 1 [.int .i64 u] (by rfl) (by rfl) (World.news_of_block (cs := #[.int .i64 u]) (t := 3) (fr := (0, 0)) (heap_alloc_new wc _)) (by simp [Value.oneCell']) (by omega) b63.out bby.out (by simp; omega) (wc.heap.size + 1) (by simp) ?_; intro gg cap w9 hown1 hgrow hat hlt9; have q1 : w9.cell? ⟨ba, v, none⟩ = some (val va2 v) := (hgrow.cell_far ⟨ba, v, none⟩ (by simp; omega) (Ne.symm n4)).trans (s2a _ _); have q2 : w9.frozen? ⟨ba, v, none⟩ = false := (hgrow.frozen_far ⟨ba, v, none⟩ (by simp; omega) (Ne.symm n4)).trans ((frozen_ad _ _ _ _).trans s3))
              refine hK.out _ _ ?_ (fun hHeld => ?_)
              · try dsimp only
                (first
                  | (simp [*, World.cell?_alloc_some, World.cell?_setCell_far]; done)
                  | (go_split_ands
                     refine ⟨?_, ?_, ?_⟩
                     · (rw [hgrow.cell_far _ (by simp; omega) (Ne.symm n1)]; assumption)
                     · (rw [hgrow.cell_far _ (by simp; omega) (Ne.symm n2)]; assumption)
                     · (rw [hgrow.cell_far _ (by simp; omega) (Ne.symm n2)]; assumption)))
              clear hK K
              (try simp only [Act.put, List.setIfInBounds_toArray, List.set_cons_zero, List.set_cons_succ])
              refine wpAnyH_take (i := 14) (v := ?vc14a) rfl (by kernel_rfl) (by kernel_rfl) (by kernel_rfl) (fun _ _ _ h => h) (Or.inl ⟨by rfl, ?hyc14a⟩) (by assumption) ?restc14a
              case hyc14a => (intro w hSw; (try dsimp only at hSw); go_simp <;> with_reducible rfl)
              (try simp only [Act.put, List.setIfInBounds_toArray, List.set_cons_zero, List.set_cons_succ])
              refine wpAnyH_ready (rs := [15]) (by kernel_rfl) (by simp) (AllReadyH.cons rfl (fun K hK => ?_) AllReadyH.nil)
              go_simp
              refine hK.out _ _ ?_ (fun hHeld => ?_)
              · try dsimp only
                (first
                  | (simp [*, World.cell?_alloc_some, World.cell?_setCell_far]; done)
                  | (go_split_ands
                     refine ⟨?_, ?_, ?_⟩
                     · (rw [hgrow.cell_far _ (by simp; omega) (Ne.symm n1)]; assumption)
                     · (rw [hgrow.cell_far _ (by simp; omega) (Ne.symm n2)]; assumption)
                     · (rw [hgrow.cell_far _ (by simp; omega) (Ne.symm n2)]; assumption)))
              clear hK K
              (try simp only [Act.put, List.setIfInBounds_toArray, List.set_cons_zero, List.set_cons_succ])
              refine wpAnyH_done (by kernel_rfl) ?_ _
              refine NoPanic.normal ?_
              have hfin := hid ((HG.out.ext (((Kept.refl [] wc).alloc (.cells #[.int .i64 u] 3)).drew)).pushAll (i := v) (x := u) hv hgrow rfl hown1 (by rcases hat with hh | hh; exact .inl hh; exact .inr (by rw [hh]; simp)))
              have hkf := hid (((HK.out.alloc (.cells #[.int .i64 u] 3)).drew.grown hgrow (fun j hj => .inr (by have := (HO.out.lt j hj).1; have := HB.out; omega))).setCell (p := ⟨ba, v, none⟩) (.inr (by have := HB.out; simp; omega)) (.slice (some ⟨gg, 0, none⟩) ((row ra2 v).length + 1) cap))
              have hrf := hid (stay (bo := ba) HRB.out hob.out hgrow (own_ne HO.out HRB.out (by decide)) (i := v) (nv := .slice (some ⟨gg, 0, none⟩) ((row ra2 v).length + 1) cap))
              have hef := hid (stay (bo := ba) HE.out hob.out hgrow (own_ne HO.out HE.out (by decide)) (i := v) (nv := .slice (some ⟨gg, 0, none⟩) ((row ra2 v).length + 1) cap))
              go_wp2_with fail
              exact ⟨⟨k + 1, vo2, _, by omega, by go_num, hkf.out, by rw [HRO.out, HRA.out]; exact hfin.out, hrf.out⟩, by simp [intOf]; omega⟩
            · go_simp
              refine hK.out _ _ ?_ (fun hHeld => ?_)
              · try dsimp only
                (first
                  | (simp [*, World.cell?_alloc_some, World.cell?_setCell_far]; done)
                  | (go_split_ands
                     refine ⟨?_, ?_, ?_⟩
                     · (rw [hgrow.cell_far _ (by simp; omega) (Ne.symm n1)]; assumption)
                     · (rw [hgrow.cell_far _ (by simp; omega) (Ne.symm n2)]; assumption)
                     · (rw [hgrow.cell_far _ (by simp; omega) (Ne.symm n2)]; assumption)))
              clear hK K
              (try simp only [Act.put, List.setIfInBounds_toArray, List.set_cons_zero, List.set_cons_succ])
              refine wpAnyH_ready (rs := [9]) (by kernel_rfl) (by simp) (AllReadyH.cons rfl (fun K hK => ?_) AllReadyH.nil)
              go_simp
              refine hK.out _ _ ?_ (fun hHeld => ?_)
              · try dsimp only
                (first
                  | (simp [*, World.cell?_alloc_some, World.cell?_setCell_far]; done)
                  | (go_split_ands
                     refine ⟨?_, ?_, ?_⟩
                     · (rw [hgrow.cell_far _ (by simp; omega) (Ne.symm n1)]; assumption)
                     · (rw [hgrow.cell_far _ (by simp; omega) (Ne.symm n2)]; assumption)
                     · (rw [hgrow.cell_far _ (by simp; omega) (Ne.symm n2)]; assumption)))
              clear hK K
              (try simp only [Act.put, List.setIfInBounds_toArray, List.set_cons_zero, List.set_cons_succ])
              refine wpAnyH_ready (rs := [13]) (by kernel_rfl) (by simp) (AllReadyH.cons rfl (fun K hK => ?_) AllReadyH.nil)
              (refine step_append_lies _ (by rfl) _ _ _ (by rfl) B 3 i0 _ 1 8 Tryz.underlying37 hi0 hz0 hz1 hz2 rfl (by omega) (val va2 v) _ (intCells (row ra2 v)) (by rfl) ((HO.out.alloc _).drew) ⟨wc.heap.size, 0, none⟩ 1 1 [.int .i64 u] (by rfl) (by rfl) (World.news_of_block (cs := #[.int .i64 u]) (t := 3) (fr := (0, 0)) (heap_alloc_new wc _)) (by simp [Value.oneCell']) (by omega) b63.out bby.out (by simp; omega) (wc.heap.size + 1) (by simp) ?_; intro gg cap w9 hown1 hgrow hat hlt9; have q1 : w9.cell? ⟨ba, v, none⟩ = some (val va2 v) := (hgrow.cell_far ⟨ba, v, none⟩ (by simp; omega) (Ne.symm n4)).trans (s2a _ _); have q2 : w9.frozen? ⟨ba, v, none⟩ = false := (hgrow.frozen_far ⟨ba, v, none⟩ (by simp; omega) (Ne.symm n4)).trans ((frozen_ad _ _ _ _).trans s3))
              refine hK.out _ _ ?_ (fun hHeld => ?_)
              · try dsimp only
                (first
                  | (simp [*, World.cell?_alloc_some, World.cell?_setCell_far]; done)
                  | (go_split_ands
                     refine ⟨?_, ?_, ?_⟩
                     · (rw [hgrow.cell_far _ (by simp; omega) (Ne.symm n1)]; assumption)
                     · (rw [hgrow.cell_far _ (by simp; omega) (Ne.symm n2)]; assumption)
                     · (rw [hgrow.cell_far _ (by simp; omega) (Ne.symm n2)]; assumption)))
              clear hK K
              (try simp only [Act.put, List.setIfInBounds_toArray, List.set_cons_zero, List.set_cons_succ])
              refine wpAnyH_take (i := 14) (v := ?vc14b) rfl (by kernel_rfl) (by kernel_rfl) (by kernel_rfl) (fun _ _ _ h => h) (Or.inl ⟨by rfl, ?hyc14b⟩) (by assumption) ?restc14b
              case hyc14b => (intro w hSw; (try dsimp only at hSw); go_simp <;> with_reducible rfl)
              (try simp only [Act.put, List.setIfInBounds_toArray, List.set_cons_zero, List.set_cons_succ])
              refine wpAnyH_ready (rs := [15]) (by kernel_rfl) (by simp) (AllReadyH.cons rfl (fun K hK => ?_) AllReadyH.nil)
              go_simp
              refine hK.out _ _ ?_ (fun hHeld => ?_)
              · try dsimp only
                (first
                  | (simp [*, World.cell?_alloc_some, World.cell?_setCell_far]; done)
                  | (go_split_ands
                     refine ⟨?_, ?_, ?_⟩
                     · (rw [hgrow.cell_far _ (by simp; omega) (Ne.symm n1)]; assumption)
                     · (rw [hgrow.cell_far _ (by simp; omega) (Ne.symm n2)]; assumption)
                     · (rw [hgrow.cell_far _ (by simp; omega) (Ne.symm n2)]; assumption)))
              clear hK K
              (try simp only [Act.put, List.setIfInBounds_toArray, List.set_cons_zero, List.set_cons_succ])
              refine wpAnyH_done (by kernel_rfl) ?_ _
              refine NoPanic.normal ?_
              have hfin := hid ((HG.out.ext (((Kept.refl [] wc).alloc (.cells #[.int .i64 u] 3)).drew)).pushAll (i := v) (x := u) hv hgrow rfl hown1 (by rcases hat with hh | hh; exact .inl hh; exact .inr (by rw [hh]; simp)))
              have hkf := hid (((HK.out.alloc (.cells #[.int .i64 u] 3)).drew.grown hgrow (fun j hj => .inr (by have := (HO.out.lt j hj).1; have := HB.out; omega))).setCell (p := ⟨ba, v, none⟩) (.inr (by have := HB.out; simp; omega)) (.slice (some ⟨gg, 0, none⟩) ((row ra2 v).length + 1) cap))
              have hrf := hid (stay (bo := ba) HRB.out hob.out hgrow (own_ne HO.out HRB.out (by decide)) (i := v) (nv := .slice (some ⟨gg, 0, none⟩) ((row ra2 v).length + 1) cap))
              have hef := hid (stay (bo := ba) HE.out hob.out hgrow (own_ne HO.out HE.out (by decide)) (i := v) (nv := .slice (some ⟨gg, 0, none⟩) ((row ra2 v).length + 1) cap))
              go_wp2_with fail
              exact ⟨⟨k + 1, vo2, _, by omega, by go_num, hkf.out, by rw [HRO.out, HRA.out]; exact hfin.out, hrf.out⟩, by simp [intOf]; omega⟩
      · have hke : es.length = k := by omega
        subst hke
        rw [List.take_length] at hG
        have q0 : wr.cell? ⟨gb, 0, none⟩ = some (.int .i64 (n : Int)) := cell_of_obj hG.head 0
        have q1 : wr.cell? ⟨gb, 1, none⟩ = some (.slice (some ⟨bo, 0, none⟩) n n) := cell_of_obj hG.head 1
        have q2 : wr.cell? ⟨gb, 2, none⟩ = some (.slice (some ⟨ba, 0, none⟩) n n) := cell_of_obj hG.head 2
        have r0 : wr.cell? ⟨rb, 0, none⟩ = some (.int .i64 0) := cell_of_obj hr 0
        have r1 : wr.cell? ⟨rb, 1, none⟩ = some (.slice none 0 0) := cell_of_obj hr 1
        have r2 : wr.cell? ⟨rb, 2, none⟩ = some (.slice none 0 0) := cell_of_obj hr 2
        have hfz : ∀ i, wr.frozen? ⟨rb, i, none⟩ = false := frozen_of_obj hr
        have HK := hid hK
        have HG := hid hG
        have HR := hid hr
        clear hK hG hr
        have hob := hid (obj_setCell (obj_setCell (obj_setCell HR.out 0 (.int .i64 (n : Int))) 1 (.slice (some ⟨bo, 0, none⟩) n n)) 2 (.slice (some ⟨ba, 0, none⟩) n n))
        have hkz := hid (((HK.out.setCell (p := ⟨rb, 0, none⟩) (.inr (by have := HRBE.out; simp; omega)) (.int .i64 (n : Int))).setCell (p := ⟨rb, 1, none⟩) (.inr (by have := HRBE.out; simp; omega)) (.slice (some ⟨bo, 0, none⟩) n n)).setCell (p := ⟨rb, 2, none⟩) (.inr (by have := HRBE.out; simp; omega)) (.slice (some ⟨ba, 0, none⟩) n n))
        have kr := hid (show Kept [rb] wr _ from (((Kept.refl [rb] wr).setCell (p := ⟨rb, 0, none⟩) (.inl (by simp)) (.int .i64 (n : Int))).setCell (p := ⟨rb, 1, none⟩) (.inl (by simp)) (.slice (some ⟨bo, 0, none⟩) n n)).setCell (p := ⟨rb, 2, none⟩) (.inl (by simp)) (.slice (some ⟨ba, 0, none⟩) n n))
        have hou := hid (HG.out.out.move kr.out HR.out (by decide) (by decide))
        have hoa := hid (HG.out.all.move kr.out HR.out (by decide) (by decide))
        go_wp2_with fail
        have g0 := cell_of_obj hob.out 0
        have g1 := cell_of_obj hob.out 1
        have g2 := cell_of_obj hob.out 2
        simp at g0 g1 g2
        have hbb := HB.out
        exact bodyPost_ret (v := .agg #[.int .i64 (n : Int), .slice (some ⟨bo, 0, none⟩) n n, .slice (some ⟨ba, 0, none⟩) n n]) (by simp [results, Tryz.results33, go_sem, g0, g1, g2]) rfl ⟨bo, ba, rfl, hkz.out, fun L hL => hou.out.outL (fun k hk => by have := hL k hk; omega) hbb.2.1, fun L hL => hoa.out.outL (fun k hk => by have := hL k hk; omega) hbb.2.2.1⟩
end Go.Proofs.YtedljgohmlilgaaGreat
