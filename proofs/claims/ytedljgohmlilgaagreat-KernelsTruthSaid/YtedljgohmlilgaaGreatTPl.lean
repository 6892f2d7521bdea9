/-
  What truth says is what the rounds come to. No program in sight.
-/
import Derived.Test.YtedljgohmlilgaaGreatTLab
import Derived.Test.YtedljgohmlilgaaGreatTOf
namespace Go.Proofs.YtedljgohmlilgaaGreat
set_option linter.unusedVariables false
set_option linter.unusedSimpArgs false

/-- Behind m rounds, and not ahead, a job of the kind k is done, with these numbers. -/
structure IsRun (k g n : Nat) (T : List (Nat × Nat × Nat)) (out : List Int) (m : Nat) : Prop where
  pos : 1 ≤ m
  le : m ≤ if k = 2 then g else n + 1
  out : out = kCurAt k g n T m
  done : ∀ r, r < m → kDone k g r (kCurAt k g n T r) (kFull k g n T r) = decide (r + 1 = m)

/-! ### The rows that 'of' lays -/
theorem outR_rows (n : Nat) (l : List (Nat × Nat)) (h : ∀ e ∈ l, e.1 < n) : outR n l = rowsOf l 0 n := by
  induction l using snoc_ind with
  | h0 => rw [rowsOf_nil]; rfl
  | h1 l a ih =>
    rw [outR_snoc, ih (fun e he => h e (by simp [he]))]
    have := rowsOf_in l 0 n a.1 a.2 (h a (by simp))
    rw [Nat.zero_add] at this
    exact this.symm
theorem edges_outR {n : Nat} {es : List (Nat × Nat)} (h : ∀ e ∈ es, e.1 < n) : edgesOf 0 (outR n es) = tri es n := by
  rw [outR_rows n es h, rowsOf_range', edgesOf_range']; rfl
theorem mem_outR {n : Nat} {es : List (Nat × Nat)} (h : ∀ e ∈ es, e.1 < n) {u v : Nat} (hu : u < n) : v ∈ row (outR n es) u ↔ (u, v) ∈ es := by
  rw [outR_rows n es h, row_rowsOf _ _ _ _ hu, mem_lead, Nat.zero_add]
theorem row_allR (n : Nat) (l : List (Nat × Nat)) (e : Nat × Nat) (h1 : e.1 < n) (h2 : e.2 < n) (v : Nat) : row (allR n (l ++ [e])) v = row (allR n l) v ++ (if e.1 = v then [e.2] else []) ++ (if e.2 = v then [e.1] else []) := by
  rw [allR_snoc, row_pushR _ _ _ _ (by rw [pushR_length, allR_length]; exact h2), row_pushR _ _ _ _ (by rw [allR_length]; exact h1)]
  by_cases a : e.1 = v <;> by_cases b : e.2 = v <;> simp [a, b]
theorem mem_allR {n : Nat} {es : List (Nat × Nat)} (h : ∀ e ∈ es, e.1 < n ∧ e.2 < n) {u v : Nat} : v ∈ row (allR n es) u ↔ (u, v) ∈ es ∨ (v, u) ∈ es := by
  induction es using snoc_ind with
  | h0 => simp [allR, row_nils]
  | h1 l a ih =>
    have ha := h a (by simp)
    rw [row_allR n l a ha.1 ha.2, List.mem_append, List.mem_append, ih (fun e he => h e (by simp [he])), List.mem_append, List.mem_append]
    obtain ⟨x, y⟩ := a
    have m1 : v ∈ (if x = u then [y] else []) ↔ (u = x ∧ v = y) := by
      by_cases p : x = u
      · simp [p]
      · simp [p]; intro q; exact absurd q.symm p
    have m2 : v ∈ (if y = u then [x] else []) ↔ (u = y ∧ v = x) := by
      by_cases p : y = u
      · simp [p]
      · simp [p]; intro q; exact absurd q.symm p
    dsimp only
    rw [m1, m2]
    simp only [List.mem_singleton, Prod.mk.injEq]
    constructor
    · rintro (((h | h) | h) | ⟨h1, h2⟩)
      · exact .inl (.inl h)
      · exact .inr (.inl h)
      · exact .inl (.inr h)
      · exact .inr (.inr ⟨h2, h1⟩)
    · rintro ((h | h) | (h | ⟨h1, h2⟩))
      · exact .inl (.inl (.inl h))
      · exact .inl (.inr h)
      · exact .inl (.inl (.inr h))
      · exact .inr ⟨h2, h1⟩

/-! ### Distances -/
theorem Dist.levels {ts : List (List Nat)} {n s : Nat} {out : List Int} (h : Dist ts n s out) : ∀ (d v : Nat), v < n → nth out v ≠ far → nth out v = d → ∀ j, j ≤ d → ∃ u, u < n ∧ nth out u ≠ far ∧ nth out u = (j : Int) := by
  intro d
  induction d with
  | zero =>
    intro v hv hf hd j hj
    obtain rfl : j = 0 := by omega
    exact ⟨v, hv, hf, hd⟩
  | succ d ih =>
    intro v hv hf hd j hj
    rcases Nat.lt_or_ge j (d + 1) with hl | hl
    · by_cases e : v = s
      · rw [e, h.zero] at hd; omega
      · obtain ⟨u, hu, hm, huf, he⟩ := h.back v hv hf e
        exact ih u hu huf (by omega) j (by omega)
    · obtain rfl : j = d + 1 := by omega
      exact ⟨v, hv, hf, hd⟩
/-- The distances that have been told behind so many rounds. -/
def cutD (out : List Int) (r : Nat) (v : Nat) : Int := if nth out v ≠ far ∧ nth out v ≤ r then nth out v else far
theorem bfs_acc {es : List (Nat × Nat)} {n : Nat} (h : ∀ e ∈ es, e.1 < n ∧ e.2 < n) (xs : List Int) (r : Nat) (hr : r ≤ 1000) {v : Nat} (hv : v < n) :
    ((∃ u, u < n ∧ (u, v) ∈ es ∧ nth xs u = r) ∧ nth (bfsShard r xs (tab (fun _ => far) n) (tri es n)) v = (r : Int) + 1) ∨ ((¬ ∃ u, u < n ∧ (u, v) ∈ es ∧ nth xs u = r) ∧ nth (bfsShard r xs (tab (fun _ => far) n) (tri es n)) v = far) := by
  rw [bfsShard_lowers]
  obtain ⟨h1, h2, h3⟩ := lowers_spec (bfsPairs r xs (tri es n)) v (tab (fun _ => far) n) (by rw [tab_length]; exact hv)
  rw [nth_tab _ _ _ hv] at h1 h3
  by_cases hx : ∃ u, u < n ∧ (u, v) ∈ es ∧ nth xs u = r
  · left
    refine ⟨hx, ?_⟩
    obtain ⟨u, hu, hm, hxu⟩ := hx
    have hle := h2 (v, (r : Int) + 1) (mem_bfsPairs.2 ⟨(u, v, (lead es u).length), mem_tri.2 ⟨hu, hm, rfl⟩, hxu, rfl⟩) rfl
    rcases h3 with h3 | ⟨p, hp, hpv, h3⟩
    · rw [h3] at hle
      unfold far at hle
      simp at hle
      omega
    · obtain ⟨e, he, hxe, rfl⟩ := mem_bfsPairs.1 hp
      exact h3
  · right
    refine ⟨hx, ?_⟩
    rcases h3 with h3 | ⟨p, hp, hpv, h3⟩
    · exact h3
    · obtain ⟨e, he, hxe, rfl⟩ := mem_bfsPairs.1 hp
      have hm := mem_tri.1 he
      exact absurd ⟨e.1, hm.1, by rw [← hpv]; exact hm.2.1, hxe⟩ hx
theorem bfs_row {es : List (Nat × Nat)} {n g : Nat} {out : List Int} (h : ∀ e ∈ es, e.1 < n ∧ e.2 < n) (hg : g < n) (hn : n ≤ 256) (hd : Dist (outR n es) n g out) : ∀ r, r ≤ 1000 → kCurAt 1 g n (tri es n) r = tab (cutD out r) n := by
  have h1 : ∀ e ∈ es, e.1 < n := fun e he => (h e he).1
  intro r
  induction r with
  | zero =>
    intro _
    rw [kCurAt_zero]
    refine tab_congr fun v hv => ?_
    unfold farBut cutD
    by_cases e : g = v
    · subst e
      rw [if_pos rfl, hd.zero, if_pos ⟨by unfold far; omega, by simp⟩]
    · rw [if_neg e]
      by_cases hf : nth out v = far
      · rw [if_neg (fun q => q.1 hf)]
      · obtain ⟨u, hu, _, huf, he⟩ := hd.back v hv hf (fun q => e q.symm)
        have := (hd.low u hu huf).1
        rw [if_neg (fun q => by have := q.2; omega)]
  | succ r ih =>
    intro hr
    have ih := ih (by omega)
    have hac : kAccAt 1 g n (tri es n) r = tab (fun _ => far) n := by cases r <;> rfl
    rw [kCurAt_succ, kFull, hac, ih]
    refine tab_congr fun v hv => ?_
    have hx : ∀ u, u < n → nth (tab (cutD out r) n) u = cutD out r u := fun u hu => nth_tab _ _ _ hu
    have hxr : ∀ u, u < n → (nth (tab (cutD out r) n) u = (r : Int) ↔ nth out u ≠ far ∧ nth out u = r) := fun u hu => by
      rw [hx u hu]
      unfold cutD
      split
      · rename_i q; exact ⟨fun e => ⟨q.1, e⟩, fun e => e.2⟩
      · rename_i q
        constructor
        · intro e; unfold far at e; omega
        · intro e; exact absurd ⟨e.1, by omega⟩ q
    have ha := bfs_acc h (tab (cutD out r) n) r (by omega) hv
    show bfsCur (tab (cutD out r) n) (bfsShard r (tab (cutD out r) n) (tab (fun _ => far) n) (tri es n)) v = cutD out (r + 1) v
    have hrf : (r : Int) + 1 ≠ far := by unfold far; omega
    rcases ha with ⟨⟨u, hu, hm, hxu⟩, ha⟩ | ⟨hno, ha⟩
    · have hu2 := (hxr u hu).1 hxu
      have hs := hd.step u hu hu2.1 v ((mem_outR h1 hu).2 hm)
      unfold bfsCur
      rw [ha, hx v hv, if_neg hrf]
      have hc2 : cutD out (r + 1) v = nth out v := if_pos ⟨hs.1, by omega⟩
      rw [hc2]
      by_cases hle : nth out v ≤ r
      · have hc : cutD out r v = nth out v := if_pos ⟨hs.1, hle⟩
        rw [hc, if_neg (by omega)]
      · have hc : cutD out r v = far := if_neg (fun q => hle q.2)
        rw [hc, if_pos (by unfold far; omega)]
        omega
    · unfold bfsCur
      rw [ha, if_pos rfl, hx v hv]
      unfold cutD
      by_cases hf : nth out v = far
      · rw [if_neg (fun q => q.1 hf), if_neg (fun q => q.1 hf)]
      · by_cases hle : nth out v ≤ r
        · rw [if_pos ⟨hf, hle⟩, if_pos ⟨hf, by omega⟩]
        · rw [if_neg (fun q => hle q.2), if_neg]
          intro q
          have hb := hd.back v hv hf (fun e => by rw [e, hd.zero] at hle; omega)
          obtain ⟨u, hu, hm, huf, he⟩ := hb
          have := q.2
          exact hno ⟨u, hu, (mem_outR h1 hu).1 hm, (hxr u hu).2 ⟨huf, by omega⟩⟩
theorem bfs_run {es : List (Nat × Nat)} {n g : Nat} {out : List Int} (h : ∀ e ∈ es, e.1 < n ∧ e.2 < n) (hg : g < n) (hn : n ≤ 256) (hd : Dist (outR n es) n g out) : IsRun 1 g n (tri es n) out ((gm out n).toNat + 1) := by
  have hb := gm_in hd.low n (Nat.le_refl _)
  have hrow := bfs_row h hg hn hd
  have h1 : ∀ e ∈ es, e.1 < n := fun e he => (h e he).1
  refine ⟨by omega, by simp; omega, ?_, ?_⟩
  · rw [hrow _ (by omega)]
    refine list_ext_nth (by rw [tab_length]; exact hd.len) fun v hv => ?_
    rw [hd.len] at hv
    rw [nth_tab _ _ _ hv]
    unfold cutD
    by_cases hf : nth out v = far
    · rw [if_neg (fun q => q.1 hf), hf]
    · have := gm_ge (out := out) n v hv hf
      rw [if_pos ⟨hf, by omega⟩]
  · intro r hr
    have hac : kAccAt 1 g n (tri es n) r = tab (fun _ => far) n := by cases r <;> rfl
    rw [kFull, hac, hrow r (by omega)]
    show bfsDone (tab (cutD out r) n) (bfsShard r (tab (cutD out r) n) (tab (fun _ => far) n) (tri es n)) = _
    have hx : ∀ u, u < n → nth (tab (cutD out r) n) u = cutD out r u := fun u hu => nth_tab _ _ _ hu
    have hxr : ∀ u, u < n → (nth (tab (cutD out r) n) u = (r : Int) ↔ nth out u ≠ far ∧ nth out u = r) := fun u hu => by
      rw [hx u hu]
      unfold cutD
      split
      · rename_i q; exact ⟨fun e => ⟨q.1, e⟩, fun e => e.2⟩
      · rename_i q
        constructor
        · intro e; unfold far at e; omega
        · intro e; exact absurd ⟨e.1, by omega⟩ q
    unfold bfsDone
    rw [Bool.eq_iff_iff, allTo_iff, decide_eq_true_iff, tab_length]
    constructor
    · intro hall
      by_cases hlast : r + 1 = (gm out n).toNat + 1
      · exact hlast
      · exfalso
        rcases gm_at (out := out) n with h0 | ⟨v, hv, hf, he⟩
        · omega
        · obtain ⟨u, hu, huf, hue⟩ := hd.levels (gm out n).toNat v hv hf (by omega) (r + 1) (by omega)
          have hs := hall u hu
          obtain ⟨x, hx1, hm, hxf, hxe⟩ := hd.back u hu huf (fun e => by rw [e, hd.zero] at hue; omega)
          have ha := bfs_acc h (tab (cutD out r) n) r (by omega) hu
          rcases ha with ⟨_, ha⟩ | ⟨hno, _⟩
          · unfold bfsSame at hs
            rw [ha, hx u hu] at hs
            unfold cutD at hs
            rw [if_neg (fun q => by have := q.2; omega)] at hs
            have : ¬ ((r : Int) + 1 = far) := by unfold far; omega
            simp [this] at hs
            unfold far at hs
            omega
          · exact hno ⟨x, hx1, (mem_outR h1 hx1).1 hm, (hxr x hx1).2 ⟨hxf, by omega⟩⟩
    · intro hlast v hv
      unfold bfsSame
      have ha := bfs_acc h (tab (cutD out r) n) r (by omega) hv
      rcases ha with ⟨⟨u, hu, hm, hxu⟩, ha⟩ | ⟨hno, ha⟩
      · have hu2 := (hxr u hu).1 hxu
        have hs := hd.step u hu hu2.1 v ((mem_outR h1 hu).2 hm)
        have hge := gm_ge (out := out) n v hv hs.1
        rw [ha, hx v hv]
        unfold cutD
        rw [if_pos ⟨hs.1, by omega⟩]
        have : ¬ ((r : Int) + 1 < nth out v) := by omega
        simp [this]
      · simp [ha]
end Go.Proofs.YtedljgohmlilgaaGreat
