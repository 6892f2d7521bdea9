/-
  A queue in a slice: taken at its head ('q = q[1:]'), added to at its end ('append(q, v)').
-/
import Derived.Test.YtedljgohmlilgaaGreatTFil
namespace Go.Proofs.YtedljgohmlilgaaGreat
open Go.RowKit
set_option linter.unusedVariables false

/-- A slice of whole numbers that lies from block B on, wherever in its block it begins. -/
def IsQ (w : World) (B : Nat) (v : Value) (xs : List Nat) : Prop :=
  ∃ g off cap cur, v = .slice (some ⟨g, off, none⟩) xs.length cap ∧ B ≤ g ∧ w.heap[g]? = some (.cells cur 3 (0, 0)) ∧ xs.length ≤ cap ∧ off + cap ≤ cur.size ∧ ∀ j, j < xs.length → cur[off + j]? = some (.int .i64 (nat xs j))
theorem IsQ.slice {w : World} {B : Nat} {v : Value} {xs : List Nat} (h : IsQ w B v xs) : ∃ g off cap, v = .slice (some ⟨g, off, none⟩) xs.length cap ∧ B ≤ g ∧ g < w.heap.size ∧ xs.length ≤ cap ∧ ∀ j, j < xs.length → w.cell? ⟨g, off + j, none⟩ = some (.int .i64 (nat xs j)) := by
  obtain ⟨g, off, cap, cur, hv, hB, hg, hl, hc, hx⟩ := h
  exact ⟨g, off, cap, hv, hB, obj_lt hg, hl, fun j hj => by rw [cell_of_obj hg]; exact hx j hj⟩
theorem IsQ.kept {S : List Nat} {w w' : World} {B : Nat} {v : Value} {xs : List Nat} (h : IsQ w B v xs) (k : Kept S w w') (hs : ∀ j, v.ownBlock = some j → j ∉ S) : IsQ w' B v xs := by
  obtain ⟨g, off, cap, cur, rfl, hB, hg, rest⟩ := h
  exact ⟨g, off, cap, cur, rfl, hB, k.obj hg (hs g (by simp [Value.ownBlock])), rest⟩
theorem IsQ.ne {w : World} {B : Nat} {v : Value} {xs : List Nat} (h : IsQ w B v xs) {k : Nat} {c : Array Value} {T : TypeId} {fr : Nat × Nat} (ho : w.heap[k]? = some (.cells c T fr)) (hne : T ≠ 3) : v.ownBlock ≠ some k := by
  intro e
  obtain ⟨g, off, cap, cur, rfl, _, hg, _⟩ := h
  simp [Value.ownBlock] at e
  subst e
  rw [hg] at ho
  simp at ho
  exact hne ho.2.1.symm
theorem IsQ.lt {w : World} {B : Nat} {v : Value} {xs : List Nat} (h : IsQ w B v xs) : ∀ j, v.ownBlock = some j → B ≤ j ∧ j < w.heap.size := by
  intro j e
  obtain ⟨g, off, cap, cur, rfl, hB, hg, _⟩ := h
  simp [Value.ownBlock] at e
  subst e
  exact ⟨hB, obj_lt hg⟩
theorem IsQ.one {w : World} {B n : Nat} (x : Nat) (hn : n = w.heap.size) (hB : B ≤ w.heap.size) : IsQ (w.alloc (.cells #[.int .i64 (x : Int)] 3)) B (.slice (some ⟨n, 0, none⟩) 1 1) [x] :=
  ⟨n, 0, 1, _, rfl, by omega, new_obj hn, by simp, by simp, fun j hj => by
    obtain rfl : j = 0 := by simpa using hj
    simp [nat]⟩
/-- What is left behind the head. -/
theorem IsQ.tail {w : World} {B g off cap x : Nat} {xs : List Nat} (h : IsQ w B (.slice (some ⟨g, off, none⟩) (xs.length + 1) cap) (x :: xs)) : IsQ w B (.slice (if cap = 1 then some ⟨g, off, none⟩ else some ⟨g, off + 1, none⟩) xs.length (cap - 1)) xs := by
  obtain ⟨g', off', cap', cur, hv, hB, hg, hl, hc, hx⟩ := h
  cases hv
  simp only [List.length_cons] at hl hx
  by_cases h1 : cap = 1
  · rw [if_pos h1]
    have : xs = [] := List.eq_nil_of_length_eq_zero (by omega)
    subst this
    exact ⟨g, off, cap - 1, cur, rfl, hB, hg, by simp, by omega, fun j hj => by simp at hj⟩
  · rw [if_neg h1]
    refine ⟨g, off + 1, cap - 1, cur, rfl, hB, hg, by omega, by omega, fun j hj => ?_⟩
    have := hx (j + 1) (by omega)
    rw [show off + 1 + j = off + (j + 1) by omega, this]
    simp [nat]

theorem info_int_q : (Tryz.prog.info? 3).map (fun i => (i.zero, i.size, i.bytes)) = some (some (.int .i64 0), 1, 8) := by kernel_rfl
theorem run_append_q {P : Program} (w : World) (t ty : TypeId) (e : TypeId) (i : TypeInfo) (z : Value) (ht : P.underlying t = some (.slice e)) (hi : P.info? e = some i) (hz : i.zero = some z) (hsize : i.size = 1) (hby : i.bytes = 8)
    (g off cap sLen : Nat) (cur : Array Value) (hg : w.heap[g]? = some (.cells cur e (0, 0))) (hroom : sLen + 1 ≤ cap) (hfit : off + cap ≤ cur.size)
    (a : Addr) (c : Nat) (u : Value) (hu : w.cell? a = some u) (h1 : u.oneCell' = true) :
    (Builtin.append_ #[t, t] ty #[.slice (some ⟨g, off, none⟩) sLen cap, .slice (some a) 1 c]).run P w = .ok (.slice (some ⟨g, off, none⟩) (sLen + 1) cap) (w.setRow g (cur.toList.take (off + sLen) ++ [u] ++ cur.toList.drop (off + sLen + 1)).toArray) := by
  have hf := run_firstCells_some (P := P) w i.size 1 a 1 c [u] (by rw [hsize]; rfl) (fun j v hj => by
    cases j with
    | zero => simp at hj; subst hj; rw [show a.add 0 = a by unfold Addr.add; split <;> simp_all]; exact hu
    | succ j => simp at hj)
  have hst := run_storeCells_at P g (off + sLen) e [u] 0 cur w hg (by simp; omega) (by intro v hv; simp at hv; rw [hv]; exact h1)
  simp only [Nat.add_zero, List.length_singleton] at hst
  rw [hsize] at hf
  simp [Builtin.append_, run_underlying ht, sizeOf, typeInfo, hi, Builtin.lenOf, hroom, hf, Addr.add_lit, hsize, Result.andThen]
  rw [show [u] = u :: [] from rfl] at hst
  rw [hst]
  simp

theorem nat_append {xs : List Nat} {y j : Nat} (hj : j < xs.length) : nat (xs ++ [y]) j = nat xs j := by
  unfold nat; rw [List.getD_eq_getElem?_getD, List.getD_eq_getElem?_getD, List.getElem?_append_left hj]
theorem nat_append_last (xs : List Nat) (y : Nat) : nat (xs ++ [y]) xs.length = y := by
  unfold nat; rw [List.getD_eq_getElem?_getD, List.getElem?_append_right (by omega)]; simp

theorem append_q {w : World} {B : Nat} {v : Value} {xs : List Nat} (hq : IsQ w B v xs) (ty : TypeId) (ad : Addr) (c y : Nat) (hu : w.cell? ad = some (.int .i64 (y : Int))) (hl : xs.length ≤ 1000000) (hB : B ≤ w.heap.size) :
    ∃ v' w', (Builtin.append_ #[37, 37] ty #[v, .slice (some ad) 1 c]).run Tryz.prog w = .ok v' w' ∧ IsQ w' B v' (xs ++ [y]) ∧ w.grownBy w' v.ownBlock ∧ ∃ g off cap, v' = .slice (some ⟨g, off, none⟩) (xs.length + 1) cap := by
  obtain ⟨g, off, cap, cur, rfl, hBg, hg, hlc, hc, hx⟩ := hq
  obtain ⟨i, hi, hzz⟩ := Option.map_eq_some_iff.1 (info_int_q : (Tryz.prog.info? 3).map (fun i => (i.zero, i.size, i.bytes)) = some (some (.int .i64 0), 1, 8))
  simp only [Prod.mk.injEq] at hzz
  obtain ⟨hz, hsi, hb⟩ := hzz
  by_cases hroom : xs.length + 1 ≤ cap
  · refine ⟨_, _, run_append_q w 37 ty 3 i _ Tryz.underlying37 hi hz hsi hb g off cap xs.length cur hg hroom hc ad c _ hu rfl, ?_, ?_, ⟨_, _, _, rfl⟩⟩
    · refine ⟨g, off, cap, _, by rw [List.length_append]; rfl, hBg, setRow_at hg, by simpa using hroom, ?_, ?_⟩
      · simp; omega
      · intro j hj
        simp only [List.length_append, List.length_singleton] at hj
        simp only [List.getElem?_toArray]
        rcases Nat.lt_or_ge j xs.length with h | h
        · rw [nat_append h, List.append_assoc, List.getElem?_append_left (by simp; omega), List.getElem?_take_of_lt (by omega)]
          simpa using hx j h
        · obtain rfl : j = xs.length := by omega
          rw [nat_append_last, List.append_assoc, List.getElem?_append_right (by simp; omega)]
          have : off + xs.length - (cur.toList.take (off + xs.length)).length = 0 := by simp; omega
          rw [this]; rfl
    · refine ⟨rfl, rfl, rfl, by simp [World.setRow], fun k hk hne => setRow_other w g k _ (by rintro rfl; exact hne (by simp [Value.ownBlock]))⟩
  · have hfit := growslice_fits (bytes := 8) (need := xs.length + 1) (old := cap) (by omega) (by omega)
    have hrun := run_append_grow (P := Tryz.prog) w 37 ty 3 i _ Tryz.underlying37 hi hz ⟨g, off, none⟩ xs.length cap (intCells xs) (by rw [intCells_length, hsi]; omega) (fun j u hj => by
        have hjl : j < xs.length := by
          rcases Nat.lt_or_ge j xs.length with h | h
          · exact h
          · rw [List.getElem?_eq_none (by rw [intCells_length]; exact h)] at hj; cases hj
        rw [intCells_at hjl] at hj
        cases hj
        rw [add_lit, cell_of_obj hg]
        exact hx j hjl) ad 1 c [.int .i64 (y : Int)] (by rw [hsi]; rfl) (fun j u hj => by
        cases j with
        | zero => simp at hj; subst hj; rw [show ad.add 0 = ad by unfold Addr.add; split <;> simp_all]; exact hu
        | succ j => simp at hj) (by omega) (by omega) (by rw [hb]; exact hfit)
    have hge := grownCap_ge w (xs.length + 1) cap 3
    refine ⟨_, _, hrun, ?_, ⟨rfl, rfl, rfl, by simp, fun k hk _ => heap_alloc_old (w := w.drew) _ hk⟩, ⟨_, _, _, rfl⟩⟩
    refine ⟨w.heap.size, 0, _, _, by rw [List.length_append]; rfl, hB, heap_alloc_new w.drew _, by simpa using hge, ?_, ?_⟩
    · simp only [Array.size_append, List.size_toArray, size_zeroCells, intCells_length]
      rw [show (Value.int .i64 0).cells.size = 1 from rfl]
      simp
      omega
    · intro j hj
      simp only [List.length_append, List.length_singleton] at hj
      rw [Nat.zero_add, Array.append_assoc]
      rcases Nat.lt_or_ge j xs.length with h | h
      · rw [nat_append h, Array.getElem?_append_left (by simp [intCells_length]; exact h)]
        simpa using intCells_at h
      · obtain rfl : j = xs.length := by omega
        rw [nat_append_last, Array.getElem?_append_right (by simp [intCells_length]), Array.getElem?_append_left (by simp [intCells_length])]
        simp [intCells_length]

theorem wpList_append_q {w : World} {ops : Array Oper} {rest : List Oper} {o : Oper} {a : Act} {Q : Exit → Act → World → Prop} (hgd : o.guard = none) (s x : Operand)
    (ho : o.op = .call { callee := .builtin .append, args := #[s, x], argTypes := #[37, 37] }) (B : Nat) (v : Value) (xs : List Nat) (hs : a.eval s = v) (hq : IsQ w B v xs) (ad : Addr) (c y : Nat) (hx : a.eval x = .slice (some ad) 1 c) (hu : w.cell? ad = some (.int .i64 (y : Int))) (hl : xs.length ≤ 1000000) (hB : B ≤ w.heap.size)
    (h : ∀ g off cap w', IsQ w' B (.slice (some ⟨g, off, none⟩) (xs.length + 1) cap) (xs ++ [y]) → w.grownBy w' v.ownBlock → wpList Tryz.prog ops Q rest (a.put o.dst (.slice (some ⟨g, off, none⟩) (xs.length + 1) cap)) w') : wpList Tryz.prog ops Q (o :: rest) a w := by
  refine wpList_plain hgd fun K hK => ?_
  obtain ⟨v', w', hrun, h1, h2, g, off, cap, rfl⟩ := append_q hq o.type ad c y hu hl hB
  unfold Oper.wp
  simp [execOp, ho, resolve, invoke, builtin, hs, hx, hrun, Result.andThen]
  exact hK _ _ (h _ _ _ _ h1 h2)
end Go.Proofs.YtedljgohmlilgaaGreat
