/-
  The walk of carousellaw17.Shards.
-/
import Derived.Test.YtedljgohmlilgaaGreatMkW
import Derived.Deep.DeepMust
import Derived.Maps.AppendAt
namespace Go.Proofs.YtedljgohmlilgaaGreat
open Go.RowKit
set_option linter.unusedVariables false

theorem cuts_length (n s : Nat) : (cuts n s).length = s := by simp [cuts]
theorem edge_cuts {n s i : Nat} (h : i < s) : edge (cuts n s) i = cutAt n s i := by rw [edge_eq (by rw [cuts_length]; exact h)]; simp [cuts]
theorem cut_lt {n s i : Nat} (h1 : 1 ≤ s) (h2 : s ≤ n) : (cutAt n s i).1 < (cutAt n s i).2 := by
  show i * n / s < (i + 1) * n / s
  have h : i * n / s + 1 = (i * n + s) / s := by rw [Nat.add_div_right _ (by omega)]
  have h3 : (i * n + s) / s ≤ (i + 1) * n / s := Nat.div_le_div_right (by rw [Nat.add_mul, Nat.one_mul]; omega)
  omega
theorem cut_le {n s i : Nat} (h : i < s) : (cutAt n s i).2 ≤ n := by
  show (i + 1) * n / s ≤ n
  have : (i + 1) * n ≤ s * n := Nat.mul_le_mul_right _ (by omega)
  have h2 : (i + 1) * n / s ≤ s * n / s := Nat.div_le_div_right this
  rw [Nat.mul_div_cancel_left _ (by omega)] at h2
  exact h2

def shAt (x : (Nat × Nat) × Nat) : List Value := [.int .i64 x.1.1, .int .i64 x.1.2, .slice (some ⟨x.2, 0, none⟩) (x.1.2 - x.1.1) (x.1.2 - x.1.1)]
def shCells (ss : List ((Nat × Nat) × Nat)) : List Value := ss.flatMap shAt
theorem shCells_length (ss : List ((Nat × Nat) × Nat)) : (shCells ss).length = ss.length * 3 := by
  induction ss with
  | nil => rfl
  | cons e es ih => simp [shCells, List.flatMap_cons, shAt] at ih ⊢; omega
theorem shCells_at (ss : List ((Nat × Nat) × Nat)) (i : Nat) (h : i < ss.length) : ∀ j, j < 3 → (shCells ss)[i * 3 + j]? = (shAt ss[i])[j]? := by
  intro j hj
  induction ss generalizing i with
  | nil => simp at h
  | cons e es ih =>
    have e1 : shCells (e :: es) = shAt e ++ shCells es := by simp [shCells, List.flatMap_cons]
    have e2 : (shAt e).length = 3 := rfl
    rw [e1]
    cases i with
    | zero => rw [List.getElem?_append_left (by rw [e2]; omega)]; simp
    | succ i =>
      rw [List.getElem?_append_right (by rw [e2]; omega), e2, show (i + 1) * 3 + j - 3 = i * 3 + j by omega, ih i (by simpa using h)]
      simp
theorem shCells_one (ss : List ((Nat × Nat) × Nat)) : ∀ u ∈ shCells ss, u.oneCell' = true := by
  intro u hu
  simp only [shCells, List.mem_flatMap, shAt] at hu
  obtain ⟨a, _, hu⟩ := hu
  simp at hu
  rcases hu with rfl | rfl | rfl <;> rfl

structure IsShards (w : World) (B : Nat) (v : Value) (es cs : List (Nat × Nat)) : Prop where
  ex : ∃ ss : List ((Nat × Nat) × Nat), ss.map Prod.fst = cs ∧ w.ownsRow B 43 3 v cs.length (shCells ss) ∧ ∀ x ∈ ss, IsOut w v.ownBlock.toList (some ⟨x.2, 0, none⟩) (rowsOf es x.1.1 (x.1.2 - x.1.1))
theorem IsShards.ext {w w' : World} {B : Nat} {v : Value} {es cs : List (Nat × Nat)} (h : IsShards w B v es cs) (k : Kept [] w w') : IsShards w' B v es cs := by
  obtain ⟨ss, h1, h2, h3⟩ := h.ex
  exact ⟨ss, h1, ownsRow_kept h2 k (by simp), fun x hx => (h3 x hx).kept k (by simp)⟩
theorem IsShards.base {w : World} {B B' : Nat} {v : Value} {es cs : List (Nat × Nat)} (h : IsShards w B v es cs) (hb : B' ≤ B) : IsShards w B' v es cs := by
  obtain ⟨ss, h1, h2, h3⟩ := h.ex
  exact ⟨ss, h1, ownsRow_base h2 hb, h3⟩
theorem IsShards.nil (w : World) (B : Nat) (es : List (Nat × Nat)) : IsShards w B (.slice none 0 0) es [] := ⟨[], rfl, World.ownsRow_nil _ _ _ _, by simp⟩
theorem IsShards.slice {w : World} {B : Nat} {v : Value} {es cs : List (Nat × Nat)} (h : IsShards w B v es cs) : ∃ a c, v = .slice a cs.length c ∧ cs.length ≤ c := by
  obtain ⟨ss, h1, h2, h3⟩ := h.ex
  obtain ⟨a, c, hv, hc, _⟩ := ownsRow_slice h2
  exact ⟨a, c, hv, hc⟩
/-- The shard at a place. -/
theorem IsShards.at {w : World} {B : Nat} {a : Option Addr} {n c : Nat} {es cs : List (Nat × Nat)} (h : IsShards w B (.slice a n c) es cs) {i : Nat} (hi : i < cs.length) :
    ∃ g bo, a = some ⟨g, 0, none⟩ ∧ w.cell? ⟨g, i * 3, none⟩ = some (.int .i64 (edge cs i).1) ∧ w.cell? ⟨g, i * 3 + 1, none⟩ = some (.int .i64 (edge cs i).2)
      ∧ w.cell? ⟨g, i * 3 + 2, none⟩ = some (.slice (some ⟨bo, 0, none⟩) ((edge cs i).2 - (edge cs i).1) ((edge cs i).2 - (edge cs i).1)) ∧ IsOut w [] (some ⟨bo, 0, none⟩) (rowsOf es (edge cs i).1 ((edge cs i).2 - (edge cs i).1)) := by
  obtain ⟨ss, h1, h2, h3⟩ := h.ex
  have hl : ss.length = cs.length := by rw [← h1]; simp
  have hi' : i < ss.length := by omega
  obtain ⟨a', c', hv, hc, hn, hs⟩ := ownsRow_slice h2
  cases hv
  have he : edge cs i = ss[i].1 := by rw [edge_eq hi]; subst h1; simp
  cases a with
  | none => have := (hn rfl).1; omega
  | some ad =>
    obtain ⟨g, rfl, _, _, hcell⟩ := hs ad rfl
    have := shCells_at ss i hi'
    refine ⟨g, ss[i].2, rfl, ?_, ?_, ?_, ?_⟩
    · rw [he]; exact hcell _ _ (this 0 (by omega))
    · rw [he]; exact hcell _ _ (this 1 (by omega))
    · rw [he]; exact hcell _ _ (this 2 (by omega))
    · rw [he]; exact (h3 _ (List.getElem_mem _)).to (by simp)
/-- One shard more. -/
theorem IsShards.push {w w0 w1 : World} {B bo : Nat} {v v' : Value} {es cs : List (Nat × Nat)} {c : Nat × Nat} {ss : List ((Nat × Nat) × Nat)} (h1 : ss.map Prod.fst = cs) (h2 : w.ownsRow B 43 3 v cs.length (shCells ss))
    (h3 : ∀ x ∈ ss, IsOut w v.ownBlock.toList (some ⟨x.2, 0, none⟩) (rowsOf es x.1.1 (x.1.2 - x.1.1))) (k : Kept [] w w0) (hg : w0.grownBy w1 v.ownBlock) (ho : IsOut w0 v.ownBlock.toList (some ⟨bo, 0, none⟩) (rowsOf es c.1 (c.2 - c.1)))
    (hown : w1.ownsRow B 43 3 v' (cs.length + 1) (shCells ss ++ shAt (c, bo))) (hat : v'.ownBlock = v.ownBlock ∨ v'.ownBlock = some w0.heap.size) : IsShards w1 B v' es (cs ++ [c]) := by
  have kk : Kept v.ownBlock.toList w0 w1 := (Kept.refl _ w0).grown hg (fun j e => .inl (by rw [e]; simp))
  have key : ∀ {o : Option Addr} {rows : List (List Nat)}, IsOut w0 v.ownBlock.toList o rows → IsOut w1 v'.ownBlock.toList o rows := fun {o rows} hh => by
    refine ((hh.to (L' := v.ownBlock.toList ++ v'.ownBlock.toList) ?_).kept kk (fun j hj => by simp [hj])).to (fun j hj => .inl (by simp [hj]))
    intro j hj
    rcases List.mem_append.1 hj with hj | hj
    · exact .inl hj
    · rcases hat with e | e
      · rw [e] at hj; exact .inl hj
      · rw [e] at hj; simp at hj; exact .inr (by omega)
  refine ⟨ss ++ [(c, bo)], by simp [h1], ?_, fun x hx => ?_⟩
  · rw [List.length_append]
    simpa [shCells, List.flatMap_append] using hown
  · rcases List.mem_append.1 hx with hx | hx
    · exact key ((h3 x hx).kept k (by simp))
    · simp at hx; subst hx; exact key ho

theorem info_Shard : (Tryz.prog.info? 43).map (fun i => (i.zero, i.size, i.bytes)) = some (some (.agg #[.int .i64 0, .int .i64 0, .slice none 0 0]), 3, 40) := by kernel_rfl

theorem shNews {w : World} (fr m bo : Nat) : ∀ p, (some ⟨w.heap.size, 0, none⟩ : Option Addr) = some p → ∀ (j : Nat) u, (shAt ((fr, fr + m), bo))[j]? = some u → (w.alloc (.cells #[.int .i64 fr, .int .i64 ((fr : Int) + m), .slice (some ⟨bo, 0, none⟩) m m] 43)).cell? (p.add j) = some u := by
  have h := @news_alloc w (shAt ((fr, fr + m), bo)) 43
  have e : (shAt ((fr, fr + m), bo)).toArray = #[.int .i64 fr, .int .i64 ((fr : Int) + m), .slice (some ⟨bo, 0, none⟩) m m] := by simp [shAt]
  rw [e] at h
  exact h

def parts (n many : Nat) : Nat := 1 + many % min n 16
set_option maxRecDepth 100000 in
set_option maxHeartbeats 4000000 in
theorem Shards_ok (B : Nat) (l : Value) (es : List (Nat × Nat)) (n many : Nat) (w : World) (h : IsEdges w 59 B l es) (hn : 1 ≤ n) (hn2 : n ≤ 256) (hm : many < 256) (hs : ∀ u, (lead es u).Pairwise (· < ·)) (hl : es.length ≤ 1000) :
    Calls Tryz.prog 7 #[.int .i64 n, l, .int .u8 many] w fun e w' => ∃ v, e = .returned v ∧ Kept [] w w' ∧ IsShards w' w.heap.size v es (cuts n (parts n many)) := by
  obtain ⟨s, hsv⟩ : ∃ s, s = parts n many := ⟨_, rfl⟩
  rw [← hsv]
  have hs1 : 1 ≤ s := by rw [hsv]; unfold parts; omega
  have hs2 : s ≤ n ∧ s ≤ 16 := by
    rw [hsv]; unfold parts
    have := Nat.mod_lt many (show 0 < min n 16 by omega)
    omega
  obtain ⟨a, c, rfl, hc, hnone, hsome⟩ := h.slice
  have a1 : wrap64 (1 + (many : Int) % min (n : Int) 16) = s := by
    rw [hsv]; unfold parts
    have e : (many : Int) % min (n : Int) 16 = ((many % min n 16 : Nat) : Int) := by
      rw [Int.natCast_emod]; congr 1; omega
    rw [e]
    have := Nat.mod_lt many (show 0 < min n 16 by omega)
    unfold wrap64; omega
  have HS := hid hs
  have A1 := hid a1
  clear hsv hs a1
  go_enter Tryz.func7, Tryz.ntmps7
  go_wp2_with fail
  rw [A1.out]
  refine (Cut_ok n s w hn hn2 hs1 hs2.1 hs2.2).mono ?_
  rintro e w1 ⟨rfl, hk1, hb1⟩
  have HK1 := hid hk1
  have HB1 := hid hb1
  have l1 : w.heap.size < w1.heap.size := obj_lt hb1
  clear hk1 hb1
  go_wp2_with fail
  go_loopw [9, 10] (fun v i wr => ∃ k : Nat, k ≤ s ∧ i = .int .i64 k ∧ Kept [] w1 wr ∧ IsShards wr w1.heap.size v es ((cuts n s).take k)) (fun _ i _ => s - (intOf i).toNat)
  case atStart => exact ⟨0, Nat.zero_le _, rfl, Kept.refl _ _, IsShards.nil _ _ _⟩
  case round =>
    obtain ⟨k, hk, rfl, hK, hI⟩ := hrel
    obtain ⟨a2, c2, rfl, hc2⟩ := hI.slice
    have HL := hid (show ((cuts n s).take k).length = k by rw [List.length_take, cuts_length]; omega)
    rw [HL.out] at hc2 hI ⊢
    by_cases hlt : k < s
    · have ob := hK.obj HB1.out (by simp)
      have q1 : wr.cell? ⟨w.heap.size, k * 2, none⟩ = some (.int .i64 (cutAt n s k).1) := by
        rw [cell_of_obj ob]; have := (cellsOf_at (cuts n s) k (by rw [cuts_length]; exact hlt)).1; rw [edge_cuts hlt] at this; simpa using this
      have q2 : wr.cell? ⟨w.heap.size, k * 2 + 1, none⟩ = some (.int .i64 (cutAt n s k).2) := by
        rw [cell_of_obj ob]; have := (cellsOf_at (cuts n s) k (by rw [cuts_length]; exact hlt)).2; rw [edge_cuts hlt] at this; simpa using this
      have p1 := cut_lt (n := n) (i := k) hs1 hs2.1
      have p2 := cut_le (n := n) hlt
      obtain ⟨fr, hfr⟩ : ∃ fr, fr = (cutAt n s k).1 := ⟨_, rfl⟩
      obtain ⟨m, hm⟩ : ∃ m, (cutAt n s k).2 = fr + m := ⟨(cutAt n s k).2 - fr, by omega⟩
      rw [hm] at q2 p2
      rw [← hfr] at q1 p1
      have HC := hid (show cutAt n s k = (fr, fr + m) by rw [← hm, hfr])
      have hm1 : 1 ≤ m := by omega
      have hNx := hid (show (cuts n s).take (k + 1) = (cuts n s).take k ++ [(fr, fr + m)] by
        rw [List.take_succ_eq_append_getElem (by rw [cuts_length]; exact hlt), ← edge_eq (by rw [cuts_length]; exact hlt), edge_cuts hlt, HC.out])
      clear hm hfr ob p1
      have HK := hid hK
      have HI := hid hI
      clear hK hI
      go_wp2_with fail
      refine (Make_ok B (.slice a es.length c) es fr m _ ((h.ext HK1.out).ext HK.out) hm1 (by omega) HS.out hl).mono ?_
      rintro e w2 ⟨bo, rfl, hk2, ho2⟩
      have HK2 := hid (HK.out.trans hk2)
      have HI2 := hid (HI.out.ext hk2)
      have HO2 := hid ho2
      have T1 := hid (show (shAt ((fr, fr + m), bo)).length = 1 * 3 from rfl)
      have T4 := hid (show ∀ u ∈ shAt ((fr, fr + m), bo), u.oneCell' = true by intro u hu; simp [shAt] at hu; rcases hu with rfl | rfl | rfl <;> rfl)
      have T5 := hid (show k + 1 ≤ maxLen by unfold maxLen; omega)
      have T6 := hid (show (k + 1) * 40 ≤ 140737488355328 by omega)
      clear hk2 ho2
      obtain ⟨ss, i1, i2, i3⟩ := HI2.out.ex
      rw [HL.out] at i2
      have I1 := hid i1
      have I2 := hid i2
      have I3 := hid i3
      obtain ⟨ss0, z1, z2, z3⟩ := HI.out.ex
      have I0 := hid z2
      have HO3 := hid (show IsOut w2 (Value.slice a2 k c2).ownBlock.toList (some ⟨bo, 0, none⟩) (rowsOf es (fr, fr + m).1 ((fr, fr + m).2 - (fr, fr + m).1)) by
        rw [show (fr, fr + m).2 - (fr, fr + m).1 = m by simp]
        exact HO2.out (Value.slice a2 k c2).ownBlock.toList (fun j hj => (I0.out.lt j (by simpa using hj)).2))
      clear z1 z2 z3
      obtain ⟨i0, hi0, hz0, hz1, hz2⟩ := info_parts info_Shard
      clear i1 i2 i3
      have lw : w1.heap.size ≤ w2.heap.size := HK2.out.size
      go_wp2_with (at_builtin; go_must (refine wpList_append_own_at _ rfl (.tmp 30) (.tmp 37) 35 rfl w1.heap.size 43 i0 (.agg #[.int .i64 0, .int .i64 0, .slice none 0 0]) 3 40 Tryz.underlying35 hi0 hz0 hz1 hz2 rfl (by decide) _ _ _ rfl (ownsRow_kept I2.out ((Kept.refl [] _).alloc _) (by simp)) _ _ _ (shAt ((fr, fr + m), bo)) rfl T1.out (shNews fr m bo _ rfl) T4.out T5.out T6.out (Nat.le_trans lw (by simp)) ?_; intro v3 w3 ho3 hg3 _ hat3; have hk3 := hid ((HK2.out.alloc _).grown hg3 (fun j e => .inr (I2.out.lt j e).1)); have hpu := hid (IsShards.push I1.out (by rw [HL.out]; exact I2.out) I3.out ((Kept.refl [] _).alloc _) hg3 (HO3.out.kept ((Kept.refl [] _).alloc _) (by simp)) (by rw [HL.out]; exact ho3) hat3)))
      exact ⟨⟨k + 1, by omega, by go_num, hk3.out, by rw [hNx.out]; exact hpu.out⟩, by simp [intOf]; omega⟩
    · have hke : s = k := by omega
      subst hke
      have hT := hid (show (cuts n s).take s = cuts n s by rw [List.take_of_length_le (by rw [cuts_length]; omega)])
      have hKf := hid (HK1.out.trans hK)
      have HI := hid hI
      clear hK hI
      go_wp2_with fail
      go_ret
      exact ⟨_, rfl, hKf.out, by rw [← hT.out]; exact HI.out.base (Nat.le_of_lt l1)⟩
end Go.Proofs.YtedljgohmlilgaaGreat
