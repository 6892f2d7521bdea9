/-
  The walk of carousellaw21.KernelsTruth.
-/
import Derived.Test.YtedljgohmlilgaaGreatKerE
import Derived.Test.YtedljgohmlilgaaGreatGKerT
import Derived.Test.YtedljgohmlilgaaGreatOrdW
import Derived.Test.YtedljgohmlilgaaGreatTRun
import Derived.Test.YtedljgohmlilgaaGreatGNorm
namespace Go.Proofs.YtedljgohmlilgaaGreat
open Go.RowKit
set_option linter.unusedVariables false

/-- The shards of a graph, as a list. -/
def shList (es : List (Nat × Nat)) (n s : Nat) : List (Nat × List (List Nat)) := (cuts n s).map fun c => (c.1, rowsOf es c.1 (c.2 - c.1))
theorem shList_length (es : List (Nat × Nat)) (n s : Nat) : (shList es n s).length = s := by rw [shList, List.length_map, cuts_length]
theorem shList_edges (es : List (Nat × Nat)) {n s : Nat} (h : 1 ≤ s) : allEdges (shList es n s) = tri es n := by
  rw [← shards_all es h]
  unfold allEdges shList
  rw [List.flatMap_map]; rfl
theorem shList_at (es : List (Nat × Nat)) {n s i : Nat} (h : i < s) : shd (shList es n s) i = ((cutAt n s i).1, rowsOf es (cutAt n s i).1 ((cutAt n s i).2 - (cutAt n s i).1)) := by
  rw [shd_eq (by rw [shList_length]; exact h)]
  simp only [shList, List.getElem_map]
  rw [← edge_eq (by rw [cuts_length]; exact h), edge_cuts h]
theorem shList_of {w : World} {B : Nat} {a : Option Addr} {n s c : Nat} {es : List (Nat × Nat)} (G : Graphy n es) (h : IsShards w B (.slice a s c) es (cuts n s)) (h1 : 1 ≤ s) (h2 : s ≤ n) : ShardList w n a (shList es n s) := by
  refine ⟨fun i hi => ?_, fun i hi => ?_⟩
  · rw [shList_length] at hi
    obtain ⟨g, fr, m, bo, ha, hcut, hmn, hsh⟩ := h.shard h1 h2 hi (Kept.refl [] w) [] (by simp)
    rw [shList_at es hi, hcut]
    simp only [Nat.add_sub_cancel_left]
    refine ⟨g, 0, some ⟨bo, 0, none⟩, m, ha, by rw [Nat.zero_add]; exact hsh.c0, ?_, ?_, hsh.out⟩
    · rw [Nat.zero_add, rowsOf_length]; exact hsh.c1
    · rw [Nat.zero_add, rowsOf_length]; exact hsh.c2
  · rw [shList_length] at hi
    obtain ⟨g, fr, m, bo, ha, hcut, hmn, hsh⟩ := h.shard h1 h2 hi (Kept.refl [] w) [] (by simp)
    rw [shList_at es hi, hcut]
    simp only [Nat.add_sub_cancel_left]
    exact ⟨by rw [rowsOf_length]; exact hmn, G.within fr m, G.short fr m⟩
set_option linter.unusedSimpArgs false
theorem U64s.row {w : World} {B g n : Nat} {xs : List Int} (h : U64s w g xs) (hn : xs.length = n) (hm : n ≤ maxLen) (hB : B ≤ g) : IsRow w B (.slice (some ⟨g, 0, none⟩) n n) xs := by
  subst hn
  exact ⟨by simp, .inr ⟨g, xs.length, _, rfl, hB, h, Nat.le_refl _, hm, by simp, by simp [List.take_of_length_le]⟩⟩
/-- The rounds do not hang on the edges' order. -/
theorem edges_perm {k r n : Nat} {X Y : List Int} {T U : List (Nat × Nat × Nat)} (h : T.Perm U) (hw : k = 2 → Words Y) (hc : k ≠ 1 → k ≠ 2 → k ≠ 3 → Y = tab (fun _ => 0) n) : kEdges k r X Y T = kEdges k r X Y U := by
  unfold kEdges
  split
  · exact bfsShard_same fun e => h.mem_iff
  · exact rankShard_perm (hw rfl) h
  · exact labelsShard_same fun e => h.mem_iff
  · rename_i h1 h2 h3
    rw [hc (fun e => h1 e) (fun e => h2 e) (fun e => h3 e)]
    exact coresShard_perm (Words.tab n (fun _ => by omega)) h
theorem acc_zero {k g n : Nat} {T : List (Nat × Nat × Nat)} (h1 : k ≠ 1) (h2 : k ≠ 2) (h3 : k ≠ 3) (r : Nat) : kAccAt k g n T r = tab (fun _ => 0) n := by
  cases r with
  | zero =>
    show kAcc0 k n = _
    unfold kAcc0
    split
    · exact absurd rfl h1
    · exact absurd rfl h2
    · exact absurd rfl h3
    · rfl
  | succ r =>
    show kAcc k n _ = _
    unfold kAcc
    split
    · exact absurd rfl h1
    · exact absurd rfl h2
    · exact absurd rfl h3
    · rfl
theorem state_perm {k g n : Nat} {T U : List (Nat × Nat × Nat)} (h : T.Perm U) : ∀ r, kCurAt k g n T r = kCurAt k g n U r ∧ kAccAt k g n T r = kAccAt k g n U r ∧ kFull k g n T r = kFull k g n U r := by
  have full : ∀ r, kCurAt k g n T r = kCurAt k g n U r → kAccAt k g n T r = kAccAt k g n U r → kFull k g n T r = kFull k g n U r := fun r h1 h2 => by
    unfold kFull
    rw [h1, h2]
    exact edges_perm (n := n) h (fun e => (kState_words k g n U r e).2) (fun a b c => acc_zero a b c r)
  intro r
  induction r with
  | zero => exact ⟨rfl, rfl, full 0 rfl rfl⟩
  | succ r ih =>
    have a : kCurAt k g n T (r + 1) = kCurAt k g n U (r + 1) := by rw [kCurAt_succ, kCurAt_succ, ih.1, ih.2.2]
    have b : kAccAt k g n T (r + 1) = kAccAt k g n U (r + 1) := by rw [kAccAt_succ, kAccAt_succ, ih.2.2]
    exact ⟨a, b, full (r + 1) a b⟩
theorem IsRun.perm {k g n m : Nat} {T U : List (Nat × Nat × Nat)} {out : List Int} (h : IsRun k g n T out m) (p : T.Perm U) : IsRun k g n U out m :=
  ⟨h.pos, h.le, by rw [h.out, (state_perm p m).1], fun r hr => by rw [← (state_perm p r).1, ← (state_perm p r).2.2]; exact h.done r hr⟩
theorem IsRun.from {k g n m : Nat} {T : List (Nat × Nat × Nat)} {out : List Int} (h : IsRun k g n T out m) : ∀ f r, r < m → m ≤ r + f → runFrom k g n T f r = (out, m) := by
  intro f
  induction f with
  | zero => intro r h1 h2; omega
  | succ f ih =>
    intro r h1 h2
    have hd := h.done r h1
    by_cases e : r + 1 = m
    · rw [runFrom_done (by rw [hd]; simp [e]), e, h.out]
    · rw [runFrom_next (by rw [hd]; simp [e])]
      exact ih (r + 1) (by omega) (by omega)
theorem IsRun.bounded {k g n m : Nat} {T : List (Nat × Nat × Nat)} {out : List Int} (h : IsRun k g n T out m) : runFrom k g n T (bound k g n) 0 = (out, m) :=
  h.from _ 0 h.pos (by have := h.le; unfold bound; omega)

/-- Shards that stand in a slice of a call's own. -/
structure TurnedAt (w : World) (cs : List Value) (sh : List (Nat × List (List Nat))) : Prop where
  len : cs.length = sh.length * 3
  at_ : ∀ i, i < sh.length → ∃ u c, cs[i * 3]? = some (.int .i64 ((shd sh i).1 : Int)) ∧ cs[i * 3 + 1]? = some (.int .i64 (((shd sh i).1 + (shd sh i).2.length : Nat) : Int)) ∧ cs[i * 3 + 2]? = some (.slice u (shd sh i).2.length c) ∧ IsOut w [] u (shd sh i).2
theorem TurnedAt.ext {w w' : World} {cs : List Value} {sh : List (Nat × List (List Nat))} (h : TurnedAt w cs sh) (k : Kept [] w w') : TurnedAt w' cs sh :=
  ⟨h.len, fun i hi => let ⟨u, c, h0, h1, h2, h3⟩ := h.at_ i hi; ⟨u, c, h0, h1, h2, h3.kept k (by simp)⟩⟩
theorem TurnedAt.snoc {w : World} {cs : List Value} {sh : List (Nat × List (List Nat))} (h : TurnedAt w cs sh) {fr m : Nat} {u : Option Addr} {c : Nat} {rows : List (List Nat)} (hm : rows.length = m) (ho : IsOut w [] u rows) :
    TurnedAt w (cs ++ [.int .i64 (fr : Int), .int .i64 ((fr + m : Nat) : Int), .slice u m c]) (sh ++ [(fr, rows)]) := by
  refine ⟨by simp [h.len]; omega, fun i hi => ?_⟩
  simp only [List.length_append, List.length_singleton] at hi
  rcases Nat.lt_or_ge i sh.length with hl | hl
  · have e : shd (sh ++ [(fr, rows)]) i = shd sh i := by
      unfold shd; rw [List.getD_eq_getElem?_getD, List.getD_eq_getElem?_getD, List.getElem?_append_left hl]
    rw [e]
    obtain ⟨u', c', h0, h1, h2, h3⟩ := h.at_ i hl
    have := h.len
    exact ⟨u', c', by rw [List.getElem?_append_left (by omega)]; exact h0, by rw [List.getElem?_append_left (by omega)]; exact h1, by rw [List.getElem?_append_left (by omega)]; exact h2, h3⟩
  · obtain rfl : i = sh.length := by omega
    have e : shd (sh ++ [(fr, rows)]) sh.length = (fr, rows) := by
      unfold shd; rw [List.getD_eq_getElem?_getD, List.getElem?_append_right (by omega)]; simp
    rw [e]
    have hl3 := h.len
    subst hm
    refine ⟨u, c, ?_, ?_, ?_, ho⟩
    · rw [List.getElem?_append_right (by omega), show sh.length * 3 - cs.length = 0 by omega]; rfl
    · rw [List.getElem?_append_right (by omega), show sh.length * 3 + 1 - cs.length = 1 by omega]; rfl
    · rw [List.getElem?_append_right (by omega), show sh.length * 3 + 2 - cs.length = 2 by omega]; rfl
theorem turned_list {w : World} {B n c : Nat} {a : Option Addr} {cs : List Value} {sh : List (Nat × List (List Nat))} (hq : w.ownsRow B 43 3 (.slice a sh.length c) sh.length cs) (h : TurnedAt w cs sh)
    (hf : ∀ i, i < sh.length → (shd sh i).1 + (shd sh i).2.length ≤ n ∧ Within (shd sh i).2 n ∧ ∀ j, j < (shd sh i).2.length → (row (shd sh i).2 j).length ≤ 1000000) : ShardList w n a sh := by
  refine ⟨fun i hi => ?_, hf⟩
  obtain ⟨a', c', he, _, hnone, hsome⟩ := ownsRow_slice hq
  cases he
  cases a with
  | none => have := (hnone rfl).1; omega
  | some ad =>
    obtain ⟨g, rfl, _, _, hcell⟩ := hsome ad rfl
    obtain ⟨u, c', h0, h1, h2, h3⟩ := h.at_ i hi
    exact ⟨g, 0, u, c', rfl, by rw [Nat.zero_add]; exact hcell _ _ h0, by rw [Nat.zero_add]; exact hcell _ _ h1, by rw [Nat.zero_add]; exact hcell _ _ h2, h3⟩
theorem edges_turned {es : List (Nat × Nat)} {n s : Nat} {O : List Nat} (h : ∀ i ∈ O, i < s) : allEdges (O.map (shd (shList es n s))) = tour es n s O := by
  unfold allEdges tour
  rw [List.flatMap_map]
  induction O with
  | nil => rfl
  | cons i O ih =>
    rw [List.flatMap_cons, List.flatMap_cons, ih (fun j hj => h j (by simp [hj])), shList_at es (h i (by simp))]
    rfl
theorem shd_map {sh : List (Nat × List (List Nat))} {O : List Nat} {i : Nat} (h : i < O.length) : shd (O.map (shd sh)) i = shd sh (nat O i) := by
  rw [shd_eq (by simpa using h), List.getElem_map, nat_eq h]
theorem info_Shard_t : (Tryz.prog.info? 43).map (fun i => (i.zero, i.size, i.bytes)) = some (some (.agg #[.int .i64 0, .int .i64 0, .slice none 0 0]), 3, 40) := by kernel_rfl

set_option maxRecDepth 100000 in
set_option maxHeartbeats 16000000 in
theorem KernelsTruth_main (N : Nat) (a : Option Addr) (c : Nat) (ps : List (Nat × Nat)) (K A P D M Z : Nat) (a1 b1 : Option Addr) (c1 d1 : Nat) (bs ms : List Nat) (w : World) (h : IsPairs w a ps) (hbs : IsBytes w a1 bs) (hms : IsBytes w b1 ms) (hN : N < 256)
    (hps : ∀ i, i < ps.length → (edge ps i).1 < 256 ∧ (edge ps i).2 < 256) (hK : K < 256) (hA : A < 256) (hP : P < 256) (hD : D < 65536) (hM : M < 256) (hZ : Z < 256) (hbb : ∀ i, i < bs.length → nat bs i < 256) (hmm : ∀ i, i < ms.length → nat ms i < 256) (hbl : bs.length ≤ maxLen) (hml : ms.length ≤ maxLen) (h1 : ps.length ≤ 300) (h2 : bs.length ≤ 50) (h3 : ms.length ≤ 20) :
    Calls Tryz.prog 3 #[.agg #[.int .u8 N, .slice a ps.length c], .agg #[.int .u8 K, .int .u8 A, .int .u8 P, .int .u16 D], .agg #[.int .u8 M, .int .u8 Z, .slice a1 bs.length c1, .slice b1 ms.length d1]] w fun e w' => e = .returned (.bool true) ∧ Kept [] w w' := by
  have d1' : decide ((300 : Int) < ps.length) = false := by simp; omega
  have HG := hid (graphy N ps h1)
  have HPS := hid hps; clear hps
  have HBB := hid hbb; clear hbb
  clear hmm
  have D0 := hid (show (decide (50 < bs.length) || decide (20 < ms.length)) = false by simp; omega)
  have lc := hid (fun (w' : World) (k : Kept [] (((w.alloc (.cells #[.int .u8 N, .slice a ps.length c] 24)).alloc (.cells #[.int .u8 K, .int .u8 A, .int .u8 P, .int .u16 D] 27)).alloc (.cells #[.int .u8 M, .int .u8 Z, .slice a1 bs.length c1, .slice b1 ms.length d1] 30)) w') => (show (w'.cell? ⟨w.heap.size + 1, 0, none⟩ = some (.int .u8 K) ∧ w'.cell? ⟨w.heap.size + 1, 1, none⟩ = some (.int .u8 A) ∧ w'.cell? ⟨w.heap.size + 1, 2, none⟩ = some (.int .u8 P) ∧ w'.cell? ⟨w.heap.size + 1, 3, none⟩ = some (.int .u16 D)) ∧ (w'.cell? ⟨w.heap.size + 1 + 1, 0, none⟩ = some (.int .u8 M) ∧ w'.cell? ⟨w.heap.size + 1 + 1, 2, none⟩ = some (.slice a1 bs.length c1)) from by
    have ho : (((w.alloc (.cells #[.int .u8 N, .slice a ps.length c] 24)).alloc (.cells #[.int .u8 K, .int .u8 A, .int .u8 P, .int .u16 D] 27)).alloc (.cells #[.int .u8 M, .int .u8 Z, .slice a1 bs.length c1, .slice b1 ms.length d1] 30)).heap[w.heap.size + 1]? = some (.cells #[.int .u8 K, .int .u8 A, .int .u8 P, .int .u16 D] 27 (0, 0)) := obj_alloc_old (new_obj (by simp)) _
    have ho2 := k.obj ho (by simp)
    have hq : (((w.alloc (.cells #[.int .u8 N, .slice a ps.length c] 24)).alloc (.cells #[.int .u8 K, .int .u8 A, .int .u8 P, .int .u16 D] 27)).alloc (.cells #[.int .u8 M, .int .u8 Z, .slice a1 bs.length c1, .slice b1 ms.length d1] 30)).heap[w.heap.size + 1 + 1]? = some (.cells #[.int .u8 M, .int .u8 Z, .slice a1 bs.length c1, .slice b1 ms.length d1] 30 (0, 0)) := new_obj (by simp)
    have hq2 := k.obj hq (by simp)
    exact ⟨⟨by rw [cell_of_obj ho2]; rfl, by rw [cell_of_obj ho2]; rfl, by rw [cell_of_obj ho2]; rfl, by rw [cell_of_obj ho2]; rfl⟩, by rw [cell_of_obj hq2]; rfl, by rw [cell_of_obj hq2]; rfl⟩))
  go_enter Tryz.func3, Tryz.ntmps3
  go_wp2_with fail
  refine (Great_ok M Z a1 b1 bs ms c1 d1 _ hbl hml).mono ?_
  rintro e wg ⟨rfl, hkg⟩
  rw [D0.out]
  have KG := hid hkg
  have ob := hkg.obj (obj_alloc_old (obj_alloc_old (new_obj rfl) _) _ : (((w.alloc (.cells #[.int .u8 N, .slice a ps.length c] 24)).alloc (.cells #[.int .u8 K, .int .u8 A, .int .u8 P, .int .u16 D] 27)).alloc (.cells #[.int .u8 M, .int .u8 Z, .slice a1 bs.length c1, .slice b1 ms.length d1] 30)).heap[w.heap.size]? = some (.cells #[.int .u8 N, .slice a ps.length c] 24 (0, 0))) (by simp)
  have b0 : wg.cell? ⟨w.heap.size, 0, none⟩ = some (.int .u8 N) := cell_of_obj ob 0
  have b1 : wg.cell? ⟨w.heap.size, 1, none⟩ = some (.slice a ps.length c) := cell_of_obj ob 1
  clear ob
  go_wp2_with fail
  clear b0 b1
  have kb : Kept [] w wg := (((Kept.refl _ _).alloc _).alloc _).alloc _ |>.trans hkg
  refine (Made_ok N a c ps _ (h.ext kb) hN HPS.out h1).mono ?_
  obtain ⟨n, hn⟩ : ∃ n, n = 1 + N % 60 := ⟨_, rfl⟩
  obtain ⟨es, hes⟩ : ∃ es, es = normE (told n ps) := ⟨_, rfl⟩
  rw [← hn] at HG ⊢
  rw [← hes] at HG ⊢
  rintro e w1 ⟨v1, rfl, hk1, he1⟩
  have K1 := hid (kb.trans hk1)
  obtain ⟨ea, ec, rfl, hec, hen, hesm⟩ := he1.slice
  have E1 := hid he1
  have ES := hid hesm
  have KB := hid hk1
  have EN := hid hen
  clear hesm hen
  clear hk1 he1 hn hes kb hkg
  have n1 := HG.out.n1
  have n60 := HG.out.n60
  have el := HG.out.len
  have LC1 := hid (show Kept [] (((w.alloc (.cells #[.int .u8 N, .slice a ps.length c] 24)).alloc (.cells #[.int .u8 K, .int .u8 A, .int .u8 P, .int .u16 D] 27)).alloc (.cells #[.int .u8 M, .int .u8 Z, .slice a1 bs.length c1, .slice b1 ms.length d1] 30)) w1 from KG.out.trans KB.out)
  obtain ⟨pbk, hpbk⟩ : ∃ b, b = w.heap.size + 1 + 1 := ⟨_, rfl⟩
  obtain ⟨abk, habk⟩ : ∃ b, b = w.heap.size + 1 := ⟨_, rfl⟩
  rw [← hpbk, ← habk] at lc ⊢
  clear hpbk habk
  obtain ⟨-, p0, p2⟩ := lc.out _ LC1.out
  go_wp2_with fail
  refine (Shards_ok _ (.slice ea es.length ec) es n M _ E1.out n1 (by omega) hM (lead_rising HG.out.rise) (by have := HG.out.len; omega)).mono ?_
  rintro e w2 ⟨v2, rfl, hk2, hs2⟩
  have K2 := hid (K1.out.trans hk2)
  have E1K := hid hk2
  have E2 := hid (E1.out.ext hk2)
  obtain ⟨s, hs⟩ : ∃ s, s = parts n M := ⟨_, rfl⟩
  have s1 := parts_pos n M
  have s2 := parts_le M n1
  have s3 := parts_16 M n1
  rw [← hs] at hs2 s1 s2 s3
  obtain ⟨sa, sc, rfl, hsc⟩ := hs2.slice
  rw [cuts_length] at hsc hs2 ⊢
  have S2 := hid hs2
  clear hk2 hs2 hs
  have LA := hid (fun (w' : World) (k : Kept [] w2 w') => (lc.out w' ((LC1.out.trans E1K.out).trans k)).1)
  have LP := hid (fun (w' : World) (k : Kept [] w2 w') => (lc.out w' ((LC1.out.trans E1K.out).trans k)).2)
  clear p0 p2 lc
  obtain ⟨p0, p2⟩ := LP.out _ (Kept.refl [] w2)
  go_wp2_with fail
  refine (Order_ok s a1 c1 bs _ (hbs.ext K2.out) s1 (by omega) HBB.out (by omega)).mono ?_
  rintro e w8 ⟨v8, rfl, hk8, ho8⟩
  have K8 := hid hk8
  have ol := hid (order_length bs s)
  have op := hid (order_perm bs s)
  have lt := hid (fun (i : Nat) (hi : i < s) => order_lt (bs := bs) hi)
  obtain ⟨O, hO⟩ : ∃ O, O = order bs s := ⟨_, rfl⟩
  rw [← hO] at ho8 ol op lt
  have I8 := hid (ownsRow_base ho8 (Nat.zero_le _))
  obtain ⟨og, oc, rfl, _, _⟩ := World.ownsRow.form ho8 (by rw [ol.out]; omega)
  obtain ⟨B, hB⟩ : ∃ B, B = w8.heap.size := ⟨_, rfl⟩
  have HB := hid hB
  clear hk8 ho8 hO p0 p2 hB
  go_wp2_with fail
  go_loopw [11, 12] (fun tv iv wr => ∃ (j : Nat) (cs : List Value), j ≤ s ∧ iv = .int .i64 j ∧ Kept [] w2 wr ∧ Kept [] w8 wr ∧ IsInts wr 0 (.slice (some ⟨og, 0, none⟩) O.length oc) O ∧ wr.ownsRow B 43 3 tv j cs ∧ TurnedAt w8 cs ((O.take j).map (shd (shList es n s)))) (fun _ iv _ => s - (intOf iv).toNat)
  case atStart => exact ⟨0, [], Nat.zero_le _, rfl, K8.out, Kept.refl _ _, I8.out, World.ownsRow_nil _ _ _ _, ⟨by simp, fun i hi => by simp at hi⟩⟩
  case round =>
    obtain ⟨j, cs, hj, rfl, hKA, hKB, hI, hq, hT⟩ := hrel
    have KA := hid hKA
    have KB8 := hid hKB
    have I := hid hI
    have QQ := hid hq
    have TT := hid hT
    clear hKA hKB hI hq hT
    by_cases hjl : j < s
    · have d4 : decide ((j : Int) < O.length) = true := by rw [ol.out]; simpa using hjl
      have ju : nat O j < s := lt.out j hjl
      have jO : j < O.length := by rw [ol.out]; exact hjl
      have p0 := owned_at I.out jO
      obtain ⟨q, hq⟩ : ∃ q, nat O j = q := ⟨_, rfl⟩
      have NX := hid (show O.take (j + 1) = O.take j ++ [q] by rw [take_nat jO, hq])
      rw [hq] at ju p0
      clear hq
      obtain ⟨sg, fr, mm, bo, rfl, hcut, hmn, hsh⟩ := S2.out.shard s1 s2 ju K8.out [] (by simp)
      have q0 := KB8.out.cell_some hsh.c0 (by simp)
      have q1 := KB8.out.cell_some hsh.c1 (by simp)
      have q2 := KB8.out.cell_some hsh.c2 (by simp)
      have SHq := hid (show shd (shList es n s) q = (fr, rowsOf es fr mm) by rw [shList_at es ju, hcut]; simp only [Nat.add_sub_cancel_left])
      have SO := hid hsh.out
      have b63 := hid (show j + 1 ≤ maxLen by unfold maxLen; omega)
      have bby := hid (show (j + 1) * 40 ≤ 140737488355328 by omega)
      clear hcut hsh
      obtain ⟨te, hte⟩ : ∃ te : Int, te = ((fr + mm : Nat) : Int) := ⟨_, rfl⟩
      rw [← hte] at q1
      have HTE := hid hte
      clear hte
      have hnw := hid (news_alloc (w := wr) (cs := [.int .i64 (fr : Int), .int .i64 te, .slice (some ⟨bo, 0, none⟩) mm mm]) (E := 43))
      have hbw := hid (show B ≤ wr.heap.size + 1 by have := KB8.out.size; have := HB.out; omega)
      go_wp2_with (at_builtin; go_must (refine wpList_append_any rfl (.tmp 51) (.tmp 59) 35 rfl B 43 (.agg #[.int .i64 0, .int .i64 0, .slice none 0 0]) 3 40 Tryz.underlying35 info_Shard_t rfl (by decide) _ _ _ rfl (QQ.out.alloc _) _ _ _ [.int .i64 (fr : Int), .int .i64 te, .slice (some ⟨bo, 0, none⟩) mm mm] rfl rfl (fun h => nomatch h) hnw.out (by simp [Value.oneCell']) b63.out bby.out (by simpa using hbw.out) ?_); intro v2 w10 ho2 hg2; have KA10 := hid ((KA.out.alloc (.cells #[.int .i64 (fr : Int), .int .i64 te, .slice (some ⟨bo, 0, none⟩) mm mm] 43)).grown hg2 (fun i e => .inr (by have := (QQ.out.lt i e).1; have := HB.out; have := K8.out.size; omega))); have KB10 := hid ((KB8.out.alloc (.cells #[.int .i64 (fr : Int), .int .i64 te, .slice (some ⟨bo, 0, none⟩) mm mm] 43)).grown hg2 (fun i e => .inr (by have := (QQ.out.lt i e).1; have := HB.out; omega))))
      exact ⟨⟨j + 1, _, by omega, by go_num, KA10.out, KB10.out, ownsRow_kept I8.out KB10.out (by simp), ho2, by
        rw [NX.out, List.map_append, HTE.out]
        show TurnedAt w8 _ (_ ++ [shd (shList es n s) q])
        rw [SHq.out]
        exact TT.out.snoc (rowsOf_length es fr mm) SO.out⟩, by simp [intOf]; omega⟩
    · have hjs : j = s := by omega
      have d4 : decide (j < O.length) = false := by rw [ol.out]; simp; omega
      have d5 : ¬ j < O.length := by rw [ol.out]; omega
      obtain ⟨SL, hSL⟩ : ∃ SL, SL = O.map (shd (shList es n s)) := ⟨_, rfl⟩
      have sll := hid (show SL.length = j by rw [hSL, List.length_map, ol.out, hjs])
      have TL := hid (show TurnedAt w8 cs SL by
        have := TT.out
        rw [List.take_of_length_le (by rw [ol.out]; omega), ← hSL] at this
        exact this)
      have AE := hid (show allEdges SL = tour es n s O by rw [hSL]; exact edges_turned (fun i hi => by have := op.out.mem_iff.1 hi; simpa using this))
      have FT := hid (show ∀ i, i < SL.length → (shd SL i).1 + (shd SL i).2.length ≤ n ∧ Within (shd SL i).2 n ∧ ∀ j, j < (shd SL i).2.length → (row (shd SL i).2 j).length ≤ 1000000 by
        intro i hi
        have hiO : i < O.length := by rw [hSL, List.length_map] at hi; exact hi
        rw [hSL, shd_map hiO]
        exact (shList_of HG.out S2.out s1 s2).fits (nat O i) (by rw [shList_length]; exact lt.out i (by rw [← ol.out]; exact hiO)))
      obtain ⟨a9, c9, rfl, hc9, _, _⟩ := ownsRow_slice QQ.out
      have LST := hid (show ShardList wr n a9 SL from turned_list (c := c9) (B := B) (cs := cs) (by rw [sll.out]; exact QQ.out) (TL.out.ext KB8.out) FT.out)
      clear hSL
      obtain ⟨x0, x1, x2, x3⟩ := LA.out _ KA.out
      go_wp2_with fail
      refine (AskMade_ok K A P D n _ n1 (by omega) hK hA hP hD).mono ?_
      rintro e w11 ⟨rfl, hk11⟩
      obtain ⟨kd, hkd⟩ : ∃ kd, kd = askKind K := ⟨_, rfl⟩
      obtain ⟨ar, har⟩ : ∃ ar, ar = askArg K A n := ⟨_, rfl⟩
      obtain ⟨pr, hpr⟩ : ∃ pr, pr = P % 8 := ⟨_, rfl⟩
      obtain ⟨nd, hnd⟩ : ∃ nd, nd = 256 + D % 1000 := ⟨_, rfl⟩
      have OK := hid (show okReq kd ar n by rw [hkd, har]; exact ask_ok K A n1)
      have pr7 : pr ≤ 7 := by omega
      rw [← hkd, ← har, ← hpr, ← hnd]
      clear hkd har hpr hnd x0 x1 x2 x3 d4 d5
      have HJS := hid hjs
      clear hjs
      obtain ⟨rb, hrb⟩ : ∃ rb, rb = w11.heap.size := ⟨_, rfl⟩
      obtain ⟨w12, hw12⟩ : ∃ w12, w12 = w11.alloc (.cells #[.int .i64 kd, .int .i64 ar, .int .i64 pr, .int .i64 nd] 45) := ⟨_, rfl⟩
      have k12 := hid (show Kept [] wr w12 by rw [hw12]; exact hk11.alloc _)
      have R12 := hid (show w12.heap[rb]? = some (.cells #[.int .i64 kd, .int .i64 ar, .int .i64 pr, .int .i64 nd] 45 (0, 0)) by rw [hw12]; exact new_obj hrb)
      have HW12 := hid hw12
      have HRB := hid hrb
      have KA12 := hid (KA.out.trans k12.out)
      clear hk11 hw12 hrb
      have hrun := Run_ok kd ar pr nd n a9 SL c9 w12 OK.out pr7 n1 (by omega) (LST.out.ext k12.out) (by rw [sll.out]; omega)
      rw [sll.out] at hrun
      have HRUN := hid hrun
      clear hrun
      go_upto_region 12 with (fail)
      rw [← HW12.out, ← HRB.out]
      clear HW12 HRB
      have r0 : w12.cell? ⟨rb, 0, none⟩ = some (.int .i64 kd) := cell_of_obj R12.out 0
      have r1 : w12.cell? ⟨rb, 1, none⟩ = some (.int .i64 ar) := cell_of_obj R12.out 1
      have r2 : w12.cell? ⟨rb, 2, none⟩ = some (.int .i64 pr) := cell_of_obj R12.out 2
      have r3 : w12.cell? ⟨rb, 3, none⟩ = some (.int .i64 nd) := cell_of_obj R12.out 3
      go_wp2_with fail
      refine HRUN.out.mono ?_
      rintro e w13 ⟨va, rfl, hk13, hrow⟩
      obtain ⟨R, hR⟩ : ∃ R, R = runFrom kd ar n (allEdges SL) (bound kd ar n) 0 := ⟨_, rfl⟩
      rw [← hR] at hrow ⊢
      have HR := hid hR
      have KA13 := hid (KA12.out.trans hk13)
      have R13 := hid (hk13.obj R12.out (by simp))
      have VA := hid hrow
      clear hk13 hrow hR r0 r1 r2 r3 HRUN
      have r0 : w13.cell? ⟨rb, 0, none⟩ = some (.int .i64 kd) := cell_of_obj R13.out 0
      have r1 : w13.cell? ⟨rb, 1, none⟩ = some (.int .i64 ar) := cell_of_obj R13.out 1
      have r2 : w13.cell? ⟨rb, 2, none⟩ = some (.int .i64 pr) := cell_of_obj R13.out 2
      have r3 : w13.cell? ⟨rb, 3, none⟩ = some (.int .i64 nd) := cell_of_obj R13.out 3
      go_wp2_with fail
      refine (tOf_ok kd ar pr nd n ea ec _ es w13 (E2.out.ext KA13.out) HG.out OK.out pr7).mono ?_
      rintro e w14 ⟨gg, m, want, rfl, hgg, hk14, hu14, hrun⟩
      have KA14 := hid (KA13.out.trans hk14)
      have R14 := hid (hk14.obj R13.out (by simp))
      have VA14 := hid (ownsRow_kept VA.out hk14 (by simp))
      have W14 := hid hu14
      have RUN := hid hrun
      clear hk14 hu14 hrun r0 r1 r2 r3
      have RE := hid (show R = (want, m) by
        rw [HR.out, AE.out]
        exact (RUN.out.perm (tour_perm s1 op.out).symm).bounded)
      have r0 : w14.cell? ⟨rb, 0, none⟩ = some (.int .i64 kd) := cell_of_obj R14.out 0
      have r1 : w14.cell? ⟨rb, 1, none⟩ = some (.int .i64 ar) := cell_of_obj R14.out 1
      have r2 : w14.cell? ⟨rb, 2, none⟩ = some (.int .i64 pr) := cell_of_obj R14.out 2
      have r3 : w14.cell? ⟨rb, 3, none⟩ = some (.int .i64 nd) := cell_of_obj R14.out 3
      go_wp2_with fail
      refine (tRounds_ok kd ar pr nd n ea ec _ es w14 (E2.out.ext KA14.out) HG.out OK.out pr7).mono ?_
      rintro e w15 ⟨m2, want2, rfl, hk15, hrun2⟩
      obtain rfl : m = m2 := (RUN.out.same hrun2).1
      have KA15 := hid (KA14.out.trans hk15)
      have VA15 := hid (ownsRow_kept VA14.out hk15 (by simp))
      have W15 := hid (W14.out.kept hk15 (by simp))
      have wl := hid (show want.length = n by rw [RUN.out.out]; exact (kState_length kd ar n (tri es n) m).1)
      clear hk15 hrun2 r0 r1 r2 r3
      have re : (((R.2 : Nat) : Int) == ((m : Nat) : Int)) = true := by rw [RE.out]; simp
      have rs : decide ((0 : Int) < s) = true := by simp; omega
      go_wp2_with fail
      refine (Numbers_true _ 0 va _ R.1 want w15 VA15.out (W15.out.row wl.out (by unfold maxLen; omega) (Nat.zero_le _)) (by rw [RE.out]; show want.length ≤ _; rw [wl.out]; omega) (by rw [RE.out])).mono ?_
      rintro e w16 ⟨rfl, hk16⟩
      have K16 := hid (KA15.out.trans hk16)
      clear hk16
      go_wp2_with fail
      refine (turns_ok _).mono ?_
      rintro e w17 ⟨rfl, hk17⟩
      have K17 := hid (K2.out.trans (K16.out.trans hk17))
      clear hk17
      go_wp2_with fail
      go_ret
      exact ⟨rfl, K17.out⟩

set_option maxRecDepth 100000 in
set_option maxHeartbeats 2000000 in
theorem KernelsTruth_ok (N : Nat) (a : Option Addr) (c : Nat) (ps : List (Nat × Nat)) (K A P D M Z : Nat) (a1 b1 : Option Addr) (c1 d1 : Nat) (bs ms : List Nat) (w : World) (h : IsPairs w a ps) (hbs : IsBytes w a1 bs) (hms : IsBytes w b1 ms) (hN : N < 256)
    (hps : ∀ i, i < ps.length → (edge ps i).1 < 256 ∧ (edge ps i).2 < 256) (hK : K < 256) (hA : A < 256) (hP : P < 256) (hD : D < 65536) (hM : M < 256) (hZ : Z < 256) (hbb : ∀ i, i < bs.length → nat bs i < 256) (hmm : ∀ i, i < ms.length → nat ms i < 256) (hbl : bs.length ≤ maxLen) (hml : ms.length ≤ maxLen) :
    Calls Tryz.prog 3 #[.agg #[.int .u8 N, .slice a ps.length c], .agg #[.int .u8 K, .int .u8 A, .int .u8 P, .int .u16 D], .agg #[.int .u8 M, .int .u8 Z, .slice a1 bs.length c1, .slice b1 ms.length d1]] w fun e w' => e = .returned (.bool true) ∧ Kept [] w w' := by
  by_cases h1 : ps.length ≤ 300
  · by_cases h2 : bs.length ≤ 50 ∧ ms.length ≤ 20
    · exact KernelsTruth_main N a c ps K A P D M Z a1 b1 c1 d1 bs ms w h hbs hms hN hps hK hA hP hD hM hZ hbb hmm hbl hml h1 h2.1 h2.2
    · have g1 : decide ((300 : Int) < ps.length) = false := by simp; omega
      have D0 := hid (show (decide (50 < bs.length) || decide (20 < ms.length)) = true by simp; omega)
      clear h2
      go_enter Tryz.func3, Tryz.ntmps3
      go_wp2_with fail
      refine (Great_ok M Z a1 b1 bs ms c1 d1 _ hbl hml).mono ?_
      rintro e wg ⟨rfl, hkg⟩
      rw [D0.out]
      have kb : Kept [] w wg := (((Kept.refl _ _).alloc _).alloc _).alloc _ |>.trans hkg
      clear hkg
      go_wp2_with fail
      refine (turns_ok _).mono ?_
      rintro e w7 ⟨rfl, hk7⟩
      have K7 := hid (kb.trans hk7)
      clear hk7 kb
      go_wp2_with fail
      go_ret
      exact ⟨rfl, K7.out⟩
  · have g1 : decide ((300 : Int) < ps.length) = true := by simp; omega
    go_enter Tryz.func3, Tryz.ntmps3
    go_wp2_with fail
    have kb : Kept [] w (((w.alloc (.cells #[.int .u8 N, .slice a ps.length c] 24)).alloc (.cells #[.int .u8 K, .int .u8 A, .int .u8 P, .int .u16 D] 27)).alloc (.cells #[.int .u8 M, .int .u8 Z, .slice a1 bs.length c1, .slice b1 ms.length d1] 30)) := (((Kept.refl _ _).alloc _).alloc _).alloc _
    refine (turns_ok _).mono ?_
    rintro e w7 ⟨rfl, hk7⟩
    have K7 := hid (kb.trans hk7)
    clear hk7 kb
    go_wp2_with fail
    go_ret
    exact ⟨rfl, K7.out⟩
end Go.Proofs.YtedljgohmlilgaaGreat
