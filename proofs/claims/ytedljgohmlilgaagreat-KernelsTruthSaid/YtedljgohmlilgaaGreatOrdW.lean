/-
  The walks of carousellaw17.Order and Trip.Great.
-/
import Derived.Test.YtedljgohmlilgaaGreatGOrd
import Derived.Test.YtedljgohmlilgaaGreatGOpen
import Derived.Deep.RegionHeld3
import Derived.Deep.AppendLies
import Derived.Maps.AppendAt
import Derived.Deep.DeepMust
import Derived.Deep.DeepCutAuto
namespace Go.Proofs.YtedljgohmlilgaaGreat
open Go.RowKit
set_option linter.unusedVariables false
set_option linter.unusedSimpArgs false

theorem Great_ok (M A : Nat) (a a2 : Option Addr) (bs ms : List Nat) (c c2 : Nat) (w : World) (hb : bs.length ≤ maxLen) (hm : ms.length ≤ maxLen) :
    Calls Tryz.prog 4 #[.agg #[.int .u8 M, .int .u8 A, .slice a bs.length c, .slice a2 ms.length c2]] w fun e w' => e = .returned (.bool (decide (50 < bs.length) || decide (20 < ms.length))) ∧ Kept [] w w' := by
  by_cases h : 50 < bs.length
  · have d1 : decide ((50 : Int) < bs.length) = true := by simp; omega
    have D := hid (show (decide (50 < bs.length) || decide (20 < ms.length)) = true by simp [h])
    clear h
    go_enter Tryz.func4, Tryz.ntmps4
    go_wp2
    go_ret
    exact ⟨by rw [D.out]; rfl, (Kept.refl _ _).alloc _⟩
  · have d1 : decide ((50 : Int) < bs.length) = false := by simp; omega
    by_cases h2 : 20 < ms.length
    · have d2 : decide ((20 : Int) < ms.length) = true := by simp; omega
      have D := hid (show (decide (50 < bs.length) || decide (20 < ms.length)) = true by simp [h2])
      clear h h2
      go_enter Tryz.func4, Tryz.ntmps4
      go_wp2
      go_ret
      exact ⟨by rw [D.out]; rfl, (Kept.refl _ _).alloc _⟩
    · have d2 : decide ((20 : Int) < ms.length) = false := by simp; omega
      have D := hid (show (decide (50 < bs.length) || decide (20 < ms.length)) = false by simp; omega)
      clear h h2
      go_enter Tryz.func4, Tryz.ntmps4
      go_wp2
      go_ret
      exact ⟨by rw [D.out]; rfl, (Kept.refl _ _).alloc _⟩

/-- 'append' at a step of a region that draws its order; nothing need be appended. -/
theorem step_append_at {P : Program} (w : World) {ops : Array Oper} {o : Oper} {a : Act} {K : Act → World → Prop} {Q : Exit → Act → World → Prop} {E : Prop} (hgd : o.guard = none) (s x : Operand) (t : TypeId)
    (ho : o.op = .call { callee := .builtin .append, args := #[s, x], argTypes := #[t, t] })
    (base : Nat) (e : TypeId) (i : TypeInfo) (z : Value) (size bytes : Nat) (ht : P.underlying t = some (.slice e)) (hi : P.info? e = some i) (hz : i.zero = some z)
    (hsize : i.size = size) (hby : i.bytes = bytes) (hzs : z.cells.size = size) (hsz : 0 < size)
    (v : Value) (n : Nat) (xs : List Value) (hs : a.eval s = v) (hown : w.ownsRow base e size v n xs)
    (ad : Addr) (m c : Nat) (news : List Value) (hx : a.eval x = .slice (some ad) m c) (hl : news.length = m * size) (hnews : ∀ j u, news[j]? = some u → w.cell? (ad.add j) = some u) (h1 : ∀ u ∈ news, u.oneCell' = true)
    (h63 : n + m ≤ maxLen) (hbytes : (n + m) * bytes ≤ 140737488355328) (hbase : base ≤ w.heap.size)
    (h : ∀ v' w', w'.ownsRow base e size v' (n + m) (xs ++ news) → w.grownBy w' v.ownBlock → (v'.ownBlock = v.ownBlock ∨ v'.ownBlock = some w.heap.size) → K (a.put o.dst v') w') :
    if Region.wanted o (yielded ops a.tmps) = true then Oper.wp P o a w K Q else E := by
  have hw : Region.wanted o (yielded ops a.tmps) = true := by simp [Region.wanted, hgd]
  rw [if_pos hw]
  obtain ⟨v', w', hr, h2, h3, _, h5⟩ := run_append_own_at (P := P) w base t o.type e i z size bytes ht hi hz hsize hby hzs hsz v n xs hown ad m c news hl hnews h1 h63 hbytes hbase
  unfold Oper.wp execOp
  simp only [ho, resolve, invoke, builtin, Sem.run_bind, Sem.run_pure, Result.andThen_ok, List.map_toArray, List.map_cons, List.map_nil, hs, hx, hr]
  exact h v' w' h2 h3 h5

def iotaTo (m k : Nat) : List Nat := (List.range m).map fun i => if i < k then i else 0
theorem iotaTo_length (m k : Nat) : (iotaTo m k).length = m := by simp [iotaTo]
theorem iota_zero (m : Nat) : madeCells #[Value.int .i64 0] m = (intCells (iotaTo m 0)).toArray := by
  apply Array.ext
  · simp [madeCells, intCells, iotaTo]
  · intro i h1 h2
    simp [madeCells, intCells, iotaTo, Nat.mod_one]
theorem iota_set (m k : Nat) (h : k < m) : ((intCells (iotaTo m k)).toArray).setIfInBounds k (.int .i64 k) = (intCells (iotaTo m (k + 1))).toArray := by
  apply Array.ext_getElem?
  intro i
  rw [Array.getElem?_setIfInBounds]
  by_cases e : k = i
  · subst e
    simp [intCells, iotaTo, h]
  · rw [if_neg e]
    by_cases hi : i < m
    · have : (i < k) = (i < k + 1) := by apply propext; omega
      simp [intCells, iotaTo, hi, this]
    · simp [intCells, iotaTo, hi]
theorem iota_all (m : Nat) : iotaTo m m = List.range m := by
  unfold iotaTo
  conv => rhs; rw [← List.map_id (List.range m)]
  apply List.map_congr_left
  intro i hi
  rw [List.mem_range] at hi
  simp [hi]

/-- Places in memory of a call's own. -/
abbrev IsInts (w : World) (B : Nat) (v : Value) (xs : List Nat) : Prop := w.ownsRow B 3 1 v xs.length (intCells xs)
theorem info_int' : (Tryz.prog.info? 3).map (fun i => (i.zero, i.size, i.bytes)) = some (some (.int .i64 0), 1, 8) := by kernel_rfl
theorem ints_lit {w : World} {B g n : Nat} {xs : List Nat} (hn : xs.length = n) (ho : w.heap[g]? = some (.cells (intCells xs).toArray 3 (0, 0))) (hl : n ≤ maxLen) (hb : B ≤ g) : IsInts w B (.slice (some ⟨g, 0, none⟩) n n) xs := by
  subst hn
  exact ⟨by simp [intCells], .inr ⟨g, xs.length, (intCells xs).toArray, rfl, hb, ho, Nat.le_refl _, hl, by simp [intCells], by simp only [Nat.mul_one]; exact List.take_of_length_le (by simp [intCells])⟩⟩

theorem owned_at {w : World} {B g n c : Nat} {xs : List Nat} {i : Nat} (h : IsInts w B (.slice (some ⟨g, 0, none⟩) n c) xs) (hi : i < xs.length) : w.cell? ⟨g, i, none⟩ = some (.int .i64 (nat xs i)) := by
  obtain ⟨a, c, e, hc, hn, hs⟩ := ownsRow_slice h
  simp only [Value.slice.injEq] at e
  obtain ⟨rfl, _, rfl⟩ := e
  obtain ⟨g', e, _, _, hcell⟩ := hs _ rfl
  simp only [Addr.mk.injEq] at e
  obtain ⟨rfl, _⟩ := e
  exact hcell _ _ (intCells_at hi)

theorem owned_cap {w : World} {B g n c : Nat} {xs : List Nat} (h : IsInts w B (.slice (some ⟨g, 0, none⟩) n c) xs) : xs.length ≤ c := by
  obtain ⟨a, c', e, hc, _⟩ := ownsRow_slice h
  simp only [Value.slice.injEq] at e
  obtain ⟨_, _, rfl⟩ := e
  exact hc

theorem took_next {bs l : List Nat} {m k n p x : Nat} (hl : l = leftAt bs m k) (hn : n = l.length) (hp : p = pick bs k n) (hx : nat l p = x) : tookAt bs m (k + 1) = tookAt bs m k ++ [x] := by subst hl hn hp hx; rfl
theorem left_next {bs l : List Nat} {m k n p : Nat} (hl : l = leftAt bs m k) (hn : n = l.length) (hp : p = pick bs k n) : leftAt bs m (k + 1) = l.take p ++ l.drop (p + 1) := by subst hl hn hp; rfl
theorem own_snoc {w : World} {B : Nat} {v : Value} {xs : List Nat} {x : Nat} (h : w.ownsRow B 3 1 v (xs.length + 1) (intCells xs ++ [.int .i64 x])) : IsInts w B v (xs ++ [x]) := by
  unfold IsInts; rw [List.length_append, intCells_append]; exact h
theorem own_join {w : World} {B : Nat} {v : Value} {l : List Nat} {n p : Nat} (hp : p < l.length) (hn : n = l.length) (h : w.ownsRow B 3 1 v (0 + p + (n - (p + 1))) ([] ++ intCells ((l.drop 0).take p) ++ intCells ((l.drop (p + 1)).take (n - (p + 1))))) : IsInts w B v (l.take p ++ l.drop (p + 1)) := by
  unfold IsInts
  rw [intCells_append]
  have e1 : (l.drop (p + 1)).take (n - (p + 1)) = l.drop (p + 1) := List.take_of_length_le (by rw [List.length_drop]; omega)
  have e2 : (l.take p ++ l.drop (p + 1)).length = 0 + p + (n - (p + 1)) := by rw [List.length_append, List.length_take, List.length_drop]; omega
  rw [e2]
  rw [e1, List.drop_zero, List.nil_append] at h
  exact h
theorem slice_if (c : Prop) [Decidable c] (a b : Addr) (m d : Nat) : Value.slice (if c then some a else some b) m d = Value.slice (some (if c then a else b)) m d := by split <;> rfl
theorem empty_own (w : World) : (w.alloc (.cells #[] 3)).drew.ownsRow w.heap.size 3 1 (.slice (some ⟨w.heap.size, 0, none⟩) 0 0) 0 [] :=
  ⟨by simp, .inr ⟨w.heap.size, 0, #[], rfl, Nat.le_refl _, obj_alloc_new w _, Nat.le_refl _, Nat.zero_le _, by simp, by simp⟩⟩
theorem ints_news {w : World} {B g n c : Nat} {xs : List Nat} (h : IsInts w B (.slice (some ⟨g, 0, none⟩) n c) xs) (o k : Nat) (ho : o + k ≤ xs.length) : ∀ j u, (intCells ((xs.drop o).take k))[j]? = some u → w.cell? ((⟨g, o, none⟩ : Addr).add j) = some u := by
  intro j u hu
  have hj : j < ((xs.drop o).take k).length := by
    rcases Nat.lt_or_ge j ((xs.drop o).take k).length with hl | hl
    · exact hl
    · rw [List.getElem?_eq_none (by rw [intCells_length]; exact hl)] at hu; exact absurd hu (by simp)
  rw [intCells_at hj] at hu
  have hj2 := hj
  rw [List.length_take, List.length_drop] at hj2
  rw [add_lit, owned_at h (i := o + j) (by omega), ← hu]
  congr 3
  rw [nat_eq hj, nat_eq (by omega)]
  simp

set_option maxRecDepth 100000 in
set_option maxHeartbeats 4000000 in
theorem Order_ok (m : Nat) (a : Option Addr) (c : Nat) (bs : List Nat) (w : World) (h : IsBytes w a bs) (hm0 : 1 ≤ m) (hm : m ≤ 256) (hbs : ∀ i, i < bs.length → nat bs i < 256) (hbl : bs.length ≤ 1000) :
    Calls Tryz.prog 8 #[.int .i64 m, .slice a bs.length c] w fun e w' => ∃ v, e = .returned v ∧ Kept [] w w' ∧ IsInts w' w.heap.size v (order bs m) := by
  have hmk := run_make_row' (P := Tryz.prog) 37 3 (.int .i64 0) 8 Tryz.underlying37 info_int' rfl .i64 .i64 m (by omega) (by omega)
  rw [iota_zero] at hmk
  go_enter Tryz.func8, Tryz.ntmps8
  go_wp2_with fail
  obtain ⟨lb, hlb⟩ : ∃ lb, lb = w.heap.size := ⟨_, rfl⟩
  have o0 := hid (new_obj hlb : (w.alloc (.cells (intCells (iotaTo m 0)).toArray 3)).heap[lb]? = _)
  have k0 := hid ((Kept.refl [] w).alloc (.cells (intCells (iotaTo m 0)).toArray 3))
  rw [← hlb]
  have HLB := hid hlb
  clear hlb hmk
  go_loopw [7] (fun i wr => ∃ k : Nat, k ≤ m ∧ i = .int .i64 k ∧ Kept [] w wr ∧ wr.heap[lb]? = some (.cells (intCells (iotaTo m k)).toArray 3 (0, 0))) (fun i _ => m - (intOf i).toNat)
  case atStart => exact ⟨0, Nat.zero_le _, rfl, k0.out, o0.out⟩
  case round =>
    obtain ⟨k, hk, rfl, hK, ho⟩ := hrel
    have K := hid hK
    have O := hid ho
    clear hK ho
    by_cases hlt : k < m
    · have d1 : decide ((k : Int) < m) = true := by simpa using hlt
      have c0 : ∃ x, wr.cell? ⟨lb, k, none⟩ = some x := ⟨_, by rw [cell_of_obj O.out]; simpa using intCells_at (xs := iotaTo m k) (i := k) (by rw [iotaTo_length]; exact hlt)⟩
      obtain ⟨x, c0⟩ := c0
      have f0 := frozen_of_obj O.out k
      have O1 := hid (iota_set m k hlt ▸ obj_setCell O.out k (.int .i64 k))
      have K1 := hid (K.out.setCell (p := ⟨lb, k, none⟩) (.inr (by have := HLB.out; simp; omega)) (.int .i64 k))
      go_wp2
      exact ⟨⟨k + 1, by omega, by go_num, K1.out, O1.out⟩, by simp [intOf]; omega⟩
    · obtain rfl : m = k := by omega
      have d1 : decide ((m : Int) < m) = false := by simp
      have L0 := hid (ints_lit (B := w.heap.size) (by rw [iotaTo_length]) O.out (by unfold maxLen; omega) (by have := HLB.out; omega))
      rw [iota_all] at L0
      go_wp2_with fail
      go_loopw [5, 6, 8] (fun ov lv i wq => ∃ k : Nat, k ≤ m ∧ i = .int .i64 k ∧ Kept [] w wq ∧ IsInts wq w.heap.size ov (tookAt bs m k) ∧ IsInts wq w.heap.size lv (leftAt bs m k) ∧ (∀ j, ov.ownBlock = some j → lv.ownBlock ≠ some j)) (fun _ _ i _ => m - (intOf i).toNat)
      case atStart => exact ⟨0, Nat.zero_le _, rfl, K.out, World.ownsRow_nil _ _ _ _, L0.out, fun j hj => by simp [Value.ownBlock] at hj⟩
      case round =>
        clear K O L0
        obtain ⟨k, hk, rfl, hK, hO, hL, hne⟩ := hrel
        have K := hid hK
        have O := hid hO
        have L := hid hL
        have NE := hid hne
        clear hK hO hL hne
        have ll := leftAt_length bs m k hk
        by_cases hlt : k < m
        · have d2 : decide ((k : Int) < m) = true := by simpa using hlt
          obtain ⟨p, hp⟩ : ∃ p, p = pick bs k (leftAt bs m k).length := ⟨_, rfl⟩
          have hpl : p < (leftAt bs m k).length := by rw [hp]; exact pick_lt _ _ (by omega)
          obtain ⟨lg, lc, rfl, hlc, hlh⟩ := World.ownsRow.form L.out (by omega)
          have hnc : (leftAt bs m k).length ≤ lc := owned_cap L.out
          obtain ⟨l, hl⟩ : ∃ l, l = leftAt bs m k := ⟨_, rfl⟩
          have HLk := hid hl
          rw [← hl] at L hp hpl ll hnc ⊢
          clear hl
          obtain ⟨n, hn⟩ : ∃ n, n = l.length := ⟨_, rfl⟩
          have HN := hid hn
          rw [← hn] at L hp hpl ll hnc ⊢
          have HLL := hid ll
          have n1 : 1 ≤ n := by omega
          have n2 : n ≤ 256 := by omega
          clear hn ll
          have HP := hid hp
          obtain ⟨x, hx⟩ : ∃ x, nat l p = x := ⟨_, rfl⟩
          have HXp := hid hx
          have q0 : wr.cell? ⟨lg, p, none⟩ = some (.int .i64 x) := by
            rw [← hx]; exact owned_at L.out (by rw [← HN.out]; exact hpl)
          clear hx
          have p256 : p ≤ 256 := by omega
          go_upto_if 29 with (fail)
          go_cut [9] (fun v wx => v = .int .i64 (p : Int) ∧ wx = wr)
          case first =>
            by_cases hkb : k < bs.length
            · have d3 : decide ((k : Int) < bs.length) = true := by simpa using hkb
              obtain ⟨bb, bo, rfl, q1⟩ := h.cells k hkb
              replace q1 := K.out.cell_some q1 (by simp)
              have hb8 := hbs k hkb
              obtain ⟨b, hb⟩ : ∃ b, nat bs k = b := ⟨_, rfl⟩
              have hp2 : (b : Int) % n = (p : Int) := by rw [hp, pick, if_pos hkb, hb, Int.natCast_emod]
              rw [hb] at q1 hb8
              clear hb hp
              go_wp2_with fail
              go_meet
              exact ⟨by rw [hp2], rfl⟩
            · have d3 : decide ((k : Int) < bs.length) = false := by simpa using hkb
              have HP0 := hid (show p = 0 by rw [hp, pick, if_neg hkb])
              clear hp
              go_wp2_with fail
              go_meet
              exact ⟨by rw [HP0.out]; rfl, rfl⟩
          case rest =>
            obtain ⟨rfl, hw⟩ := hcut
            replace hw := hw.symm
            subst hw
            clear hp
            have hpi : (p : Int) < n := by omega
            have O' := hid (ownsRow_kept O.out ((Kept.refl [] wr).alloc (.cells #[.int .i64 x] 3)) (by simp))
            obtain ⟨i0, hi0, hz0, hz1, hz2⟩ := info_parts info_int'
            have tl := hid (tookAt_length bs m k)
            have T5 := hid (show (tookAt bs m k).length + 1 ≤ maxLen by rw [tl.out]; unfold maxLen; omega)
            have T6 := hid (show ((tookAt bs m k).length + 1) * 8 ≤ 140737488355328 by rw [tl.out]; omega)
            go_wp2_with (at_builtin; go_must (refine wpList_append_own_at _ rfl (.tmp 38) (.tmp 43) 37 rfl w.heap.size 3 i0 (.int .i64 0) 1 8 Tryz.underlying37 hi0 hz0 hz1 hz2 rfl (by decide) u5 _ _ rfl O'.out _ _ _ [.int .i64 x] rfl rfl (news_alloc _ rfl) (by simp [Value.oneCell']) T5.out T6.out (Nat.le_trans K.out.size (by simp)) ?_; intro v3 w3 ho3 hg3 _ hat3; have K3 := hid ((K.out.alloc _).grown hg3 (fun j e => .inr (O.out.lt j e).1)); have HO3 := hid ho3; have HG3 := hid hg3; have HA3 := hid hat3; clear ho3 hg3 hat3))
            have pl : (0 : Int) ≤ p := by omega
            have pn : (p : Int) ≤ n := by omega
            have plc : (p : Int) ≤ lc := by omega
            have p1 : (0 : Int) ≤ p + 1 := by omega
            have p1n : (p : Int) + 1 ≤ n := by omega
            have w1p : IntKind.i64.wrap ((p : Int) + 1) = p + 1 := by rw [IntWalk.i64_in _ (by omega)]
            have KB := hid ((Kept.refl ([] ++ u5.ownBlock.toList) (wr.alloc (.cells #[.int .i64 x] 3))).grown HG3.out (fun j e => .inl (by rw [e]; simp)))
            have L3 := hid (ownsRow_kept (ownsRow_kept L.out ((Kept.refl [] wr).alloc (.cells #[.int .i64 x] 3)) (by simp)) KB.out (fun j hj => by
              intro hm
              have hm2 : u5.ownBlock = some j := by simpa using hm
              exact NE.out j hm2 hj))
            have l3 : lg < w3.heap.size := (World.ownsRow.lt L3.out lg rfl).2
            have K0 := hid (Kept.refl [] w3)
            have OW := hid (empty_own w3)
            have N1 := hid (ints_news (ownsRow_kept L3.out (((Kept.refl [] w3).alloc (.cells #[] 3)).drew) (by simp)) 0 p (by rw [← HN.out]; omega))
            have LT := hid (show (intCells ((l.drop 0).take p)).length = p * 1 by simp [intCells]; rw [← HN.out]; omega)
            have ON := hid (fun (xs : List Nat) => intCells_one xs)
            have M1 := hid (show 0 + p ≤ maxLen by unfold maxLen; omega)
            have M2 := hid (show (0 + p) * 8 ≤ 140737488355328 by omega)
            have BD := hid (show p + 1 + (n - (p + 1)) ≤ l.length by rw [← HN.out]; omega)
            have LT2 := hid (show (intCells ((l.drop (p + 1)).take (n - (p + 1)))).length = (n - (p + 1)) * 1 by simp [intCells]; rw [← HN.out]; omega)
            have M3 := hid (show 0 + p + (n - (p + 1)) ≤ maxLen by unfold maxLen; omega)
            have M4 := hid (show (0 + p + (n - (p + 1))) * 8 ≤ 140737488355328 by omega)
            have NW := hid (fun (w4 : World) (kk : Kept [] w3 w4) => (show ∀ j u, (intCells ((l.drop (p + 1)).take (n - (p + 1))))[j]? = some u → w4.cell? ((if lc = p + 1 then ⟨lg, 0, none⟩ else ⟨lg, p + 1, none⟩ : Addr).add j) = some u by
              by_cases hcap : lc = p + 1
              · rw [show n - (p + 1) = 0 by omega, List.take_zero]
                intro j u hu; simp [intCells] at hu
              · rw [if_neg hcap]
                exact ints_news (ownsRow_kept L3.out kk (by simp)) (p + 1) (n - (p + 1)) BD.out))
            go_region_held3 (fun w' => Kept [] w3 w')
              (first
                | exact (Kept.refl _ _).drew
                | exact Kept.grown (by assumption) hg4 (fun j e => .inr (by simp [Value.ownBlock] at e; omega))
                | exact Kept.grown (by assumption) hg5 (fun j e => .inr (World.ownsRow.lt ho4 j e).1)
                | exact Kept.alloc (by assumption) _)
              (first
                | ((refine step_append_at _ (by rfl) _ _ _ (by rfl) w3.heap.size 3 i0 _ 1 8 Tryz.underlying37 hi0 hz0 hz1 hz2 rfl (by omega) _ (0 + p) _ (by rfl) ho4 (if lc = p + 1 then ⟨lg, 0, none⟩ else ⟨lg, p + 1, none⟩) (n - (p + 1)) (lc - (p + 1)) (intCells ((l.drop (p + 1)).take (n - (p + 1)))) (by exact slice_if _ _ _ _ _) LT2.out (NW.out _ (show Kept [] w3 w4 by assumption)) (ON.out _) M3.out M4.out (show Kept [] w3 w4 by assumption).size ?_; intro v5 w5 ho5 hg5 hat5))
                | ((refine step_append_at _ (by rfl) _ _ _ (by rfl) w3.heap.size 3 i0 _ 1 8 Tryz.underlying37 hi0 hz0 hz1 hz2 rfl (by omega) _ 0 [] (by rfl) OW.out ⟨lg, 0, none⟩ p lc (intCells ((l.drop 0).take p)) (by rfl) LT.out N1.out (ON.out _) M1.out M2.out (by simp) ?_; intro v4 w4 ho4 hg4 hat4)))
            all_goals (
              have K4 : Kept [] w3 w4 := Kept.grown (((Kept.refl [] w3).alloc _).drew) hg4 (fun j e => .inr (by simp [Value.ownBlock] at e; omega))
              have K5 : Kept [] w3 w5 := Kept.grown K4 hg5 (fun j e => .inr (World.ownsRow.lt ho4 j e).1)
              have HK5 := hid (K3.out.trans K5)
              have HV3 := hid (show IsInts w5 w.heap.size v3 (tookAt bs m (k + 1)) by
                rw [took_next HLk.out HN.out HP.out HXp.out]
                exact own_snoc (ownsRow_kept HO3.out K5 (by simp)))
              have HV5 := hid (show IsInts w5 w.heap.size v5 (leftAt bs m (k + 1)) by
                rw [left_next HLk.out HN.out HP.out]
                have h5 := ownsRow_base ho5 (show w.heap.size ≤ w3.heap.size from K3.out.size)
                exact own_join (by rw [← HN.out]; omega) HN.out h5)
              have NE5 := hid (fun (j : Nat) (hj : v3.ownBlock = some j) (hj5 : v5.ownBlock = some j) => (show False by
                have := (World.ownsRow.lt HO3.out j hj).2
                have := (World.ownsRow.lt ho5 j hj5).1
                omega))
              clear ho4 hg4 hat4 ho5 hg5 hat5 K5 K4
              go_wp2_with fail
              exact ⟨⟨k + 1, by omega, by go_num, HK5.out, HV3.out, HV5.out, fun j hj h5 => NE5.out j hj h5⟩, by simp [intOf]; omega⟩)
        · obtain rfl : m = k := by omega
          have d2 : decide ((m : Int) < m) = false := by simp
          go_wp2_with fail
          go_ret
          exact ⟨_, rfl, K.out, O.out⟩
end Go.Proofs.YtedljgohmlilgaaGreat
