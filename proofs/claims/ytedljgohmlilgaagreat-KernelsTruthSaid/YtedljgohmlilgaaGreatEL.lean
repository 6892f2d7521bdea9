/-
  Lists of edges in memory.
-/
import Derived.Test.YtedljgohmlilgaaGreatW
import Derived.Laws.AppendOwnNone
namespace Go.Proofs.YtedljgohmlilgaaGreat
open Go.RowKit
set_option linter.unusedVariables false

theorem Kept.grown {S : List Nat} {a w w' : World} {row : Option Nat} (h : Kept S a w) (hg : w.grownBy w' row) (hr : ∀ k, row = some k → k ∈ S ∨ a.heap.size ≤ k) : Kept S a w' :=
  ⟨hg.os.trans h.os, hg.tape.trans h.tape, hg.output.trans h.output, Nat.le_trans h.size hg.size, fun k hk hs => (hg.block k (Nat.lt_of_lt_of_le hk h.size) (fun e => by
    rcases hr k e.symm with hm | hl
    · exact hs hm
    · omega)).trans (h.block k hk hs)⟩
theorem ownsRow_kept {S : List Nat} {w w' : World} {base e size n : Nat} {v : Value} {xs : List Value} (h : w.ownsRow base e size v n xs) (k : Kept S w w') (hs : ∀ j, v.ownBlock = some j → j ∉ S) : w'.ownsRow base e size v n xs := by
  refine ⟨h.1, ?_⟩
  rcases h.2 with hn | ⟨g, cap, cur, rfl, hb, hgg, rest⟩
  · exact .inl hn
  · refine .inr ⟨g, cap, cur, rfl, hb, ?_, rest⟩
    exact k.obj hgg (hs g (by simp [Value.ownBlock]))
theorem ownsRow_base {w : World} {base base' e size n : Nat} {v : Value} {xs : List Value} (h : w.ownsRow base e size v n xs) (hb : base' ≤ base) : w.ownsRow base' e size v n xs := by
  refine ⟨h.1, ?_⟩
  rcases h.2 with hn | ⟨g, cap, cur, rfl, hbg, rest⟩
  · exact .inl hn
  · exact .inr ⟨g, cap, cur, rfl, by omega, rest⟩
theorem ownsRow_slice {w : World} {base e size n : Nat} {v : Value} {xs : List Value} (h : w.ownsRow base e size v n xs) : ∃ a c, v = .slice a n c ∧ n ≤ c ∧ (a = none → n = 0 ∧ c = 0) ∧ (∀ ad, a = some ad → ∃ g, ad = ⟨g, 0, none⟩ ∧ base ≤ g ∧ g < w.heap.size ∧ ∀ j u, xs[j]? = some u → w.cell? ⟨g, j, none⟩ = some u) := by
  rcases h.2 with ⟨rfl, rfl⟩ | ⟨g, cap, cur, rfl, hb, hgg, hnc, _⟩
  · exact ⟨none, 0, rfl, Nat.le_refl _, fun _ => ⟨rfl, rfl⟩, fun ad e => by cases e⟩
  · refine ⟨some ⟨g, 0, none⟩, cap, rfl, hnc, fun e => (by cases e), fun ad e => ?_⟩
    cases e
    refine ⟨g, rfl, hb, obj_lt hgg, fun j u hu => ?_⟩
    have := h.cells (g := g) (by simp [Value.ownBlock]) j u hu
    rwa [show (⟨g, 0, none⟩ : Addr).add j = ⟨g, j, none⟩ by unfold Addr.add; split <;> simp_all] at this

theorem grown_obj {w w' : World} {B e size n : Nat} {v : Value} {xs : List Value} (h : w.ownsRow B e size v n xs) (hg : w.grownBy w' v.ownBlock) {k : Nat} {o : Obj} (hk : k < B) (ho : w.heap[k]? = some o) : w'.heap[k]? = some o := by
  rw [hg.block k (obj_lt ho) (fun e => by have := (h.lt k e.symm).1; omega)]; exact ho

/-- 'append' onto a slice of the call's own, from whatever slice. -/
theorem wpList_append_any {P : Program} {w : World} {ops : Array Oper} {rest : List Oper} {o : Oper} {a : Act} {Q : Exit → Act → World → Prop} (hgd : o.guard = none) (s x : Operand) (t : TypeId)
    (ho : o.op = .call { callee := .builtin .append, args := #[s, x], argTypes := #[t, t] })
    (base : Nat) (e : TypeId) (z : Value) (size bytes : Nat) (ht : P.underlying t = some (.slice e)) (hinfo : (P.info? e).map (fun i => (i.zero, i.size, i.bytes)) = some (some z, size, bytes)) (hzs : z.cells.size = size) (hsz : 0 < size)
    (v : Value) (n : Nat) (xs : List Value) (hs : a.eval s = v) (hown : w.ownsRow base e size v n xs)
    (ad : Option Addr) (m c : Nat) (news : List Value) (hx : a.eval x = .slice ad m c) (hl : news.length = m * size) (hnone : ad = none → m = 0 ∧ c = 0) (hnews : ∀ p, ad = some p → ∀ j u, news[j]? = some u → w.cell? (p.add j) = some u) (h1 : ∀ u ∈ news, u.oneCell' = true)
    (h63 : n + m ≤ maxLen) (hbytes : (n + m) * bytes ≤ 140737488355328) (hbase : base ≤ w.heap.size)
    (h : ∀ v' w', w'.ownsRow base e size v' (n + m) (xs ++ news) → w.grownBy w' v.ownBlock → wpList P ops Q rest (a.put o.dst v') w') : wpList P ops Q (o :: rest) a w := by
  obtain ⟨i, hi, hzz⟩ := Option.map_eq_some_iff.1 hinfo
  simp only [Prod.mk.injEq] at hzz
  obtain ⟨hz, hsi, hb⟩ := hzz
  cases ad with
  | none =>
    obtain ⟨rfl, rfl⟩ := hnone rfl
    have hn : news = [] := List.eq_nil_of_length_eq_zero (by simpa using hl)
    subst hn
    refine wpList_append_own_none hgd s x t ho base e i size ht hi v n xs hs hown hx ?_
    refine h v w ?_ ⟨rfl, rfl, rfl, Nat.le_refl _, fun _ _ _ => rfl⟩
    simpa using hown
  | some p =>
    exact wpList_append_own w hgd s x t ho base e i z size bytes ht hi hz hsi hb hzs hsz v n xs hs hown p m c news hx hl (hnews p rfl) h1 h63 hbytes hbase fun v' w' h2 h3 _ => h v' w' h2 h3

/-! ### Edges -/
def cellsOf (es : List (Nat × Nat)) : List Value := es.flatMap fun e => [.int .i64 e.1, .int .i64 e.2]
theorem cellsOf_length (es : List (Nat × Nat)) : (cellsOf es).length = es.length * 2 := by
  induction es with
  | nil => rfl
  | cons e es ih => simp [cellsOf, List.flatMap_cons] at ih ⊢; omega
theorem cellsOf_append (es fs : List (Nat × Nat)) : cellsOf (es ++ fs) = cellsOf es ++ cellsOf fs := by simp [cellsOf]
def edge (es : List (Nat × Nat)) (i : Nat) : Nat × Nat := es.getD i (0, 0)
theorem edge_eq {es : List (Nat × Nat)} {i : Nat} (h : i < es.length) : edge es i = es[i] := by simp [edge, h]
theorem cellsOf_at (es : List (Nat × Nat)) (i : Nat) (h : i < es.length) : (cellsOf es)[i * 2]? = some (.int .i64 (edge es i).1) ∧ (cellsOf es)[i * 2 + 1]? = some (.int .i64 (edge es i).2) := by
  induction es generalizing i with
  | nil => simp at h
  | cons e es ih =>
    cases i with
    | zero => simp [cellsOf, List.flatMap_cons, edge]
    | succ i =>
      have := ih i (by simpa using h)
      have e1 : (cellsOf (e :: es)) = [.int .i64 e.1, .int .i64 e.2] ++ cellsOf es := by simp [cellsOf, List.flatMap_cons]
      rw [e1, List.getElem?_append_right (by simp; omega), List.getElem?_append_right (by simp; omega)]
      have e2 : edge (e :: es) (i + 1) = edge es i := by simp [edge]
      rw [e2]
      simpa [show (i + 1) * 2 - 2 = i * 2 by omega, show (i + 1) * 2 + 1 - 2 = i * 2 + 1 by omega] using this
theorem cellsOf_one (es : List (Nat × Nat)) : ∀ u ∈ cellsOf es, u.oneCell' = true := by
  intro u hu
  simp [cellsOf] at hu
  obtain ⟨a, b, _, rfl | rfl⟩ := hu <;> rfl

theorem cellsOf_take (es : List (Nat × Nat)) (k : Nat) : cellsOf (es.take k) = (cellsOf es).take (k * 2) := by
  induction es generalizing k with
  | nil => simp [cellsOf]
  | cons e es ih =>
    cases k with
    | zero => simp [cellsOf]
    | succ k =>
      have e1 : (cellsOf (e :: es)) = [.int .i64 e.1, .int .i64 e.2] ++ cellsOf es := by simp [cellsOf, List.flatMap_cons]
      have e2 : cellsOf (e :: es.take k) = [.int .i64 e.1, .int .i64 e.2] ++ cellsOf (es.take k) := by simp [cellsOf, List.flatMap_cons]
      rw [List.take_succ_cons, e2, ih, e1, show (k + 1) * 2 = k * 2 + 1 + 1 by omega]; rfl
theorem cellsOf_drop (es : List (Nat × Nat)) (k : Nat) : cellsOf (es.drop k) = (cellsOf es).drop (k * 2) := by
  induction es generalizing k with
  | nil => simp [cellsOf]
  | cons e es ih =>
    cases k with
    | zero => simp
    | succ k =>
      have e1 : (cellsOf (e :: es)) = [.int .i64 e.1, .int .i64 e.2] ++ cellsOf es := by simp [cellsOf, List.flatMap_cons]
      rw [List.drop_succ_cons, ih, e1, show (k + 1) * 2 = k * 2 + 1 + 1 by omega]; rfl
theorem take_some {α : Type} {l : List α} {n j : Nat} {u : α} (h : (l.take n)[j]? = some u) : l[j]? = some u := by
  rw [List.getElem?_take] at h
  split at h
  · exact h
  · cases h
theorem add_lit (g o j : Nat) : (⟨g, o, none⟩ : Addr).add j = ⟨g, o + j, none⟩ := by
  unfold Addr.add; split <;> simp_all

theorem news_alloc {w : World} {cs : List Value} {E : TypeId} : ∀ p, (some ⟨w.heap.size, 0, none⟩ : Option Addr) = some p → ∀ (j : Nat) u, cs[j]? = some u → (w.alloc (.cells cs.toArray E)).cell? (p.add j) = some u := by
  intro p hp j u hu
  cases hp
  rw [add_lit, Nat.zero_add, World.cell?_alloc_at _ _ _ _ rfl]
  simpa using hu

theorem drop_none {es : List (Nat × Nat)} {k : Nat} (h : es.length ≤ k) {w : World} {ad : Option Addr} : ∀ p, ad = some p → ∀ (j : Nat) u, (cellsOf (es.drop k))[j]? = some u → w.cell? (p.add j) = some u := by
  intro p _ j u hu
  rw [List.drop_eq_nil_of_le h] at hu
  simp [cellsOf] at hu
theorem drop_cells {es : List (Nat × Nat)} {k g : Nat} {w w' : World} (hk : Kept [] w w') (hc : ∀ j u, (cellsOf es)[j]? = some u → w.cell? ⟨g, j, none⟩ = some u) :
    ∀ p, (some ⟨g, k * 2, none⟩ : Option Addr) = some p → ∀ (j : Nat) u, (cellsOf (es.drop k))[j]? = some u → w'.cell? (p.add j) = some u := by
  intro p hp j u hu
  cases hp
  rw [add_lit]
  rw [cellsOf_drop, List.getElem?_drop] at hu
  exact hk.cell_some (hc _ _ hu) (by simp)
theorem drop_if {es : List (Nat × Nat)} {k g c : Nat} {w w' : World} (hk : Kept [] w w') (hc : ∀ j u, (cellsOf es)[j]? = some u → w.cell? ⟨g, j, none⟩ = some u) (hl : es.length ≤ c) :
    ∀ p, (if c = k then some ⟨g, 0, none⟩ else some ⟨g, k * 2, none⟩ : Option Addr) = some p → ∀ (j : Nat) u, (cellsOf (es.drop k))[j]? = some u → w'.cell? (p.add j) = some u := by
  split
  · rename_i e; subst e; exact drop_none hl
  · exact drop_cells hk hc
theorem if_none {k c g m n : Nat} : (if c = k then some ⟨g, 0, none⟩ else some ⟨g, k * 2, none⟩ : Option Addr) = none → m = 0 ∧ n = 0 := by split <;> simp
theorem take_cells {es : List (Nat × Nat)} {k g : Nat} {w w' : World} (hk : Kept [] w w') (hc : ∀ j u, (cellsOf es)[j]? = some u → w.cell? ⟨g, j, none⟩ = some u) :
    ∀ p, (some ⟨g, 0, none⟩ : Option Addr) = some p → ∀ (j : Nat) u, (cellsOf (es.take k))[j]? = some u → w'.cell? (p.add j) = some u := by
  intro p hp j u hu
  cases hp
  rw [add_lit, Nat.zero_add]
  rw [cellsOf_take] at hu
  exact hk.cell_some (hc _ _ (take_some hu)) (by simp)

/-- A slice of edges that lies from block B on. -/
structure IsEdges (w : World) (E B : Nat) (v : Value) (es : List (Nat × Nat)) : Prop where
  own : w.ownsRow B E 2 v es.length (cellsOf es)
theorem IsEdges.of_append {w : World} {E B n : Nat} {v : Value} {es fs : List (Nat × Nat)} (h : w.ownsRow B E 2 v (es.length + n) (cellsOf es ++ cellsOf fs)) (hn : fs.length = n) : IsEdges w E B v (es ++ fs) := ⟨by rw [List.length_append, cellsOf_append, hn]; exact h⟩
theorem IsEdges.ext {w w' : World} {E B : Nat} {v : Value} {es : List (Nat × Nat)} (h : IsEdges w E B v es) (k : Kept [] w w') : IsEdges w' E B v es := ⟨ownsRow_kept h.own k (by simp)⟩
theorem IsEdges.kept {S : List Nat} {w w' : World} {E B : Nat} {v : Value} {es : List (Nat × Nat)} (h : IsEdges w E B v es) (k : Kept S w w') (hs : ∀ j, v.ownBlock = some j → j ∉ S) : IsEdges w' E B v es := ⟨ownsRow_kept h.own k hs⟩
theorem IsEdges.slice {w : World} {E B : Nat} {v : Value} {es : List (Nat × Nat)} (h : IsEdges w E B v es) : ∃ a c, v = .slice a es.length c ∧ es.length ≤ c ∧ (a = none → es.length = 0 ∧ c = 0) ∧
    (∀ ad, a = some ad → ∃ g, ad = ⟨g, 0, none⟩ ∧ B ≤ g ∧ g < w.heap.size ∧ ∀ j u, (cellsOf es)[j]? = some u → w.cell? ⟨g, j, none⟩ = some u) := ownsRow_slice h.own


/-! ### What 'put' and 'Normal' do with lists -/
def eLess (x y : Nat × Nat) : Bool := decide (x.1 < y.1) || (decide (x.1 = y.1) && decide (x.2 < y.2))
/-- Where an edge is to stand, looked for from place k on downwards. -/
def spot (es : List (Nat × Nat)) (x : Nat × Nat) : Nat → Nat
  | 0 => 0
  | k + 1 => if eLess x (edge es k) = true then spot es x k else k + 1
theorem spot_le (es : List (Nat × Nat)) (x : Nat × Nat) (k : Nat) : spot es x k ≤ k := by
  induction k with
  | zero => exact Nat.le_refl _
  | succ k ih => rw [spot]; split <;> omega
def putAt (es : List (Nat × Nat)) (x : Nat × Nat) (k : Nat) : List (Nat × Nat) := es.take k ++ [x] ++ es.drop k
def putE (es : List (Nat × Nat)) (x : Nat × Nat) : List (Nat × Nat) :=
  let k := spot es x es.length
  if 0 < k ∧ edge es (k - 1) = x then es else putAt es x k
theorem putE_length (es : List (Nat × Nat)) (x : Nat × Nat) : (putE es x).length ≤ es.length + 1 := by
  unfold putE putAt; dsimp only; split
  · omega
  · have := spot_le es x es.length; simp; omega
theorem putAt_own {w : World} {B B' E K : Nat} {v : Value} {es : List (Nat × Nat)} {x : Nat × Nat} (h : w.ownsRow B E 2 v (0 + K + 1 + (es.length - K)) ([] ++ cellsOf (es.take K) ++ cellsOf [x] ++ cellsOf (es.drop K))) (hK : K ≤ es.length) (hB : B' ≤ B) : IsEdges w E B' v (putAt es x K) := by
  refine ⟨ownsRow_base ?_ hB⟩
  have e1 : (putAt es x K).length = 0 + K + 1 + (es.length - K) := by simp [putAt]; omega
  rw [e1]
  rw [show cellsOf (putAt es x K) = [] ++ cellsOf (es.take K) ++ cellsOf [x] ++ cellsOf (es.drop K) by simp only [putAt, cellsOf_append, List.nil_append]]
  exact h
def normE (l : List (Nat × Nat)) : List (Nat × Nat) := l.foldl putE []
theorem foldl_putE_length (l acc : List (Nat × Nat)) : (l.foldl putE acc).length ≤ acc.length + l.length := by
  induction l generalizing acc with
  | nil => simp
  | cons x l ih => rw [List.foldl_cons]; have := ih (putE acc x); have := putE_length acc x; simp; omega
theorem normE_length (l : List (Nat × Nat)) : (normE l).length ≤ l.length := by have := foldl_putE_length l []; simpa [normE] using this
theorem normE_take (l : List (Nat × Nat)) (i : Nat) (h : i < l.length) : normE (l.take (i + 1)) = putE (normE (l.take i)) (edge l i) := by
  unfold normE; rw [List.take_succ_eq_append_getElem h, List.foldl_append, edge_eq h]; rfl
end Go.Proofs.YtedljgohmlilgaaGreat
