/-
  What truth says is what the rounds come to: ranks, labels, cores. No program in sight.
-/
import Derived.Test.YtedljgohmlilgaaGreatTPl
namespace Go.Proofs.YtedljgohmlilgaaGreat
set_option linter.unusedVariables false
set_option linter.unusedSimpArgs false

theorem rank_run {es : List (Nat × Nat)} {n R : Nat} (h : ∀ e ∈ es, e.1 < n) (hR : 1 ≤ R) : IsRun 2 R n (tri es n) (kCurAt 2 R n (edgesOf 0 (outR n es)) R) R := by
  refine ⟨hR, by simp, by rw [edges_outR h], fun r hr => ?_⟩
  show rankDone R r = _
  unfold rankDone
  rw [Bool.eq_iff_iff]
  simp
  omega

/-! ### Labels -/
theorem mem_pairs {es : List (Nat × Nat)} {n : Nat} (h : ∀ e ∈ es, e.1 < n ∧ e.2 < n) (xs : List Int) (v : Nat) (hv : v < n) : (∀ x, v ∈ row (allR n es) x → (v, nth xs x) ∈ labelsPairs xs (tri es n)) ∧ (∀ p ∈ labelsPairs xs (tri es n), p.1 = v → ∃ x, x < n ∧ v ∈ row (allR n es) x ∧ x ∈ row (allR n es) v ∧ p.2 = nth xs x) := by
  constructor
  · intro x hx
    rw [mem_labelsPairs]
    rcases (mem_allR h).1 hx with hm | hm
    · exact ⟨(x, v, (lead es x).length), mem_tri.2 ⟨(h _ hm).1, hm, rfl⟩, .inl rfl⟩
    · exact ⟨(v, x, (lead es v).length), mem_tri.2 ⟨(h _ hm).1, hm, rfl⟩, .inr rfl⟩
  · intro p hp hpv
    obtain ⟨⟨a, b, d⟩, he, hq⟩ := mem_labelsPairs.1 hp
    have hm := (mem_tri.1 he).2.1
    have hb := h _ hm
    rcases hq with rfl | rfl
    · dsimp only at hpv hm hb ⊢
      subst hpv
      exact ⟨a, hb.1, (mem_allR h).2 (.inl hm), (mem_allR h).2 (.inr hm), rfl⟩
    · dsimp only at hpv hm hb ⊢
      subst hpv
      exact ⟨b, hb.2, (mem_allR h).2 (.inr hm), (mem_allR h).2 (.inl hm), rfl⟩
/-- The labels behind so many rounds: acc is as cur ahead of each. -/
theorem lab_state {es : List (Nat × Nat)} {n : Nat} (h : ∀ e ∈ es, e.1 < n ∧ e.2 < n) : ∀ r, kAccAt 3 0 n (tri es n) r = kCurAt 3 0 n (tri es n) r ∧ kCurAt 3 0 n (tri es n) (r + 1) = labelsShard (kCurAt 3 0 n (tri es n) r) (kCurAt 3 0 n (tri es n) r) (tri es n) := by
  have hT : ∀ e ∈ tri es n, e.1 < n ∧ e.2.1 < n := fun e he => h _ (mem_tri.1 he).2.1
  have step : ∀ r, kAccAt 3 0 n (tri es n) r = kCurAt 3 0 n (tri es n) r → kCurAt 3 0 n (tri es n) (r + 1) = labelsShard (kCurAt 3 0 n (tri es n) r) (kCurAt 3 0 n (tri es n) r) (tri es n) := fun r hr => by
    have hl := (kState_length 3 0 n (tri es n) r).1
    rw [kCurAt_succ, kFull, hr]
    show tab (labelsCur (kCurAt 3 0 n (tri es n) r) (labelsShard (kCurAt 3 0 n (tri es n) r) (kCurAt 3 0 n (tri es n) r) (tri es n))) n = _
    exact labels_taken hl (by rw [labelsShard_length]; exact hl) (fun i hi => (labels_down hl hT hi).1)
  intro r
  induction r with
  | zero => exact ⟨rfl, step 0 rfl⟩
  | succ r ih =>
    have : kAccAt 3 0 n (tri es n) (r + 1) = kCurAt 3 0 n (tri es n) (r + 1) := by
      rw [ih.2, kAccAt_succ, kFull, ih.1]; rfl
    exact ⟨this, step (r + 1) this⟩
theorem lab_row {es : List (Nat × Nat)} {n : Nat} {out : List Int} {most : Int} {rt : Nat → Nat} {f : Nat → Int} (h : ∀ e ∈ es, e.1 < n ∧ e.2 < n) (hI : LabI (allR n es) n n out most rt f) : ∀ (r v : Nat), v < n →
    (f v ≤ (r : Int) → nth (kCurAt 3 0 n (tri es n) r) v = rt v) ∧ ((r : Int) < f v → (rt v : Int) < nth (kCurAt 3 0 n (tri es n) r) v) := by
  intro r
  induction r with
  | zero =>
    intro v hv
    have hne := hI.seen v hv hv
    have hval := hI.val v hv hne
    rw [kCurAt_zero]
    show (_ → nth (tab (fun i => (i : Int)) n) v = _) ∧ (_ → _ < nth (tab (fun i => (i : Int)) n) v)
    rw [nth_tab _ _ _ hv]
    rcases hI.back v hv hne with ⟨h0, h1⟩ | ⟨h1, x, hx, _, hxo, he⟩
    · exact ⟨fun _ => by rw [h1], fun q => by simp at q; omega⟩
    · have := (hI.val x hx hxo).2.2.1
      exact ⟨fun q => by simp at q; omega, fun _ => by omega⟩
  | succ r ih =>
    intro v hv
    have hne := hI.seen v hv hv
    rw [(lab_state h r).2, labelsShard_lowers]
    have hl := (kState_length 3 0 n (tri es n) r).1
    obtain ⟨h1, h2, h3⟩ := lowers_spec (labelsPairs (kCurAt 3 0 n (tri es n) r) (tri es n)) v (kCurAt 3 0 n (tri es n) r) (by omega)
    obtain ⟨m1, m2⟩ := mem_pairs h (kCurAt 3 0 n (tri es n) r) v hv
    have hge : ∀ x, x < n → (rt x : Int) ≤ nth (kCurAt 3 0 n (tri es n) r) x := fun x hx => by
      rcases Int.lt_or_le r (f x) with hlt | hle
      · have := (ih x hx).2 hlt; omega
      · have := (ih x hx).1 hle; omega
    constructor
    · intro hf
      have low : (rt v : Int) ≤ nth (lowers (kCurAt 3 0 n (tri es n) r) (labelsPairs (kCurAt 3 0 n (tri es n) r) (tri es n))) v := by
        rcases h3 with h3 | ⟨p, hp, hpv, h3⟩
        · rw [h3]; exact hge v hv
        · obtain ⟨x, hx, hm1, hm2, hpx⟩ := m2 p hp hpv
          have hc := hI.closed v hv hne x hm2
          rw [h3, hpx, ← hc.2.1]
          exact hge x hx
      rcases Int.lt_or_le r (f v) with hlt | hle
      · rcases hI.back v hv hne with ⟨h0, _⟩ | ⟨_, x, hx, hm, hxo, he⟩
        · omega
        · have hxr := (ih x hx).1 (by omega)
          have hc := hI.closed x hx hxo v hm
          have := h2 _ (m1 x hm) rfl
          dsimp only at this
          rw [hxr, ← hc.2.1] at this
          omega
      · have := (ih v hv).1 hle
        omega
    · intro hf
      rcases h3 with h3 | ⟨p, hp, hpv, h3⟩
      · rw [h3]; exact (ih v hv).2 (by omega)
      · obtain ⟨x, hx, hm1, hm2, hpx⟩ := m2 p hp hpv
        have hxne := hI.seen x hx hx
        have hc := hI.closed x hx hxne v hm1
        rw [h3, hpx, hc.2.1]
        exact (ih x hx).2 (by omega)
theorem lab_levels {ts : List (List Nat)} {n : Nat} {out : List Int} {most : Int} {rt : Nat → Nat} {f : Nat → Int} (hI : LabI ts n n out most rt f) : ∀ (d v : Nat), v < n → f v = d → ∀ j, j ≤ d → ∃ u, u < n ∧ f u = (j : Int) := by
  intro d
  induction d with
  | zero =>
    intro v hv hd j hj
    obtain rfl : j = 0 := by omega
    exact ⟨v, hv, hd⟩
  | succ d ih =>
    intro v hv hd j hj
    rcases Nat.lt_or_ge j (d + 1) with hl | hl
    · rcases hI.back v hv (hI.seen v hv hv) with ⟨h0, _⟩ | ⟨_, x, hx, _, hxo, he⟩
      · omega
      · exact ih x hx (by omega) j (by omega)
    · obtain rfl : j = d + 1 := by omega
      exact ⟨v, hv, hd⟩
theorem lab_run {es : List (Nat × Nat)} {n : Nat} {out : List Int} {most : Int} {rt : Nat → Nat} {f : Nat → Int} (h : ∀ e ∈ es, e.1 < n ∧ e.2 < n) (hI : LabI (allR n es) n n out most rt f) : IsRun 3 0 n (tri es n) out (most.toNat + 1) := by
  have hlo := hI.low
  have hrow := lab_row h hI
  have hT : ∀ e ∈ tri es n, e.1 < n ∧ e.2.1 < n := fun e he => h _ (mem_tri.1 he).2.1
  refine ⟨by omega, by simp; omega, ?_, ?_⟩
  · refine list_ext_nth (by rw [(kState_length 3 0 n (tri es n) _).1]; exact hI.len) fun v hv => ?_
    rw [hI.len] at hv
    have hval := hI.val v hv (hI.seen v hv hv)
    rw [(hrow _ v hv).1 (by omega)]
    exact hval.1
  · intro r hr
    have hl := (kState_length 3 0 n (tri es n) r).1
    have hs := lab_state h r
    rw [kFull, hs.1]
    show labelsDone (kCurAt 3 0 n (tri es n) r) (labelsShard (kCurAt 3 0 n (tri es n) r) (kCurAt 3 0 n (tri es n) r) (tri es n)) = _
    rw [labels_done hl (by rw [labelsShard_length]; exact hl) (fun i hi => (labels_down hl hT hi).1), ← hs.2]
    rw [Bool.eq_iff_iff, decide_eq_true_iff, decide_eq_true_iff]
    constructor
    · intro he
      by_cases hlast : r + 1 = most.toNat + 1
      · exact hlast
      · exfalso
        rcases hI.top with h0 | ⟨v, hv, _, hfv⟩
        · omega
        · obtain ⟨u, hu, hfu⟩ := lab_levels hI most.toNat v hv (by omega) (r + 1) (by omega)
          have a := (hrow (r + 1) u hu).1 (by omega)
          have b := (hrow r u hu).2 (by omega)
          rw [he] at a
          omega
    · intro hlast
      refine list_ext_nth (by rw [hl, (kState_length 3 0 n (tri es n) (r + 1)).1]) fun v hv => ?_
      rw [(kState_length 3 0 n (tri es n) (r + 1)).1] at hv
      have hval := hI.val v hv (hI.seen v hv hv)
      rw [(hrow (r + 1) v hv).1 (by omega), (hrow r v hv).1 (by omega)]

/-! ### Cores -/
theorem cnt_dsum {n : Nat} {xs : List Int} (hb : ∀ i, nth xs i = 0 ∨ nth xs i = 1) (d : Nat × Nat → Nat) {v : Nat} (h1 : nth xs v = 1) (l : List (Nat × Nat)) (h : ∀ e ∈ l, e.1 < n ∧ e.2 < n) : cnt xs v (l.map fun e => (e.1, e.2, d e)) = dsum xs (row (allR n l) v) := by
  induction l using snoc_ind with
  | h0 => simp [allR, row_nils, cnt, dsum]
  | h1 l a ih =>
    have ha := h a (by simp)
    rw [List.map_append, cnt_append, ih (fun e he => h e (by simp [he])), row_allR n l a ha.1 ha.2, dsum_append, dsum_append]
    obtain ⟨x, y⟩ := a
    simp only [List.map_cons, List.map_nil, cnt, cntOne]
    have hx := hb x
    have hy := hb y
    by_cases p : x = v
    · subst p
      by_cases q : y = x
      · subst q
        simp [dsum, h1]
        omega
      · simp [dsum, h1, q]
        rcases hy with hy | hy <;> simp [hy]
    · by_cases q : y = v
      · subst q
        simp [dsum, h1, p]
        rcases hx with hx | hx <;> simp [hx]
      · simp [dsum, p, q]
theorem core_row {es : List (Nat × Nat)} {n k : Nat} (G : Graphy n es) : ∀ r, kCurAt 4 k n (tri es n) r = tRow k (allR n es) n r ∧ ∀ v, v < n → coresGoes k (kCurAt 4 k n (tri es n) r) (kFull 4 k n (tri es n) r) v = goesT k (allR n es) (tRow k (allR n es) n r) v := by
  have hlt : ∀ e ∈ es, e.1 < n ∧ e.2 < n := fun e he => ⟨G.lt1 e he, G.lt2 e he⟩
  have goes : ∀ r, kCurAt 4 k n (tri es n) r = tRow k (allR n es) n r → ∀ v, v < n → coresGoes k (kCurAt 4 k n (tri es n) r) (kFull 4 k n (tri es n) r) v = goesT k (allR n es) (tRow k (allR n es) n r) v := by
    intro r hr v hv
    have hb := tRow_bits k (allR n es) n r
    have hac : kAccAt 4 k n (tri es n) r = tab (fun _ => 0) n := by cases r <;> rfl
    rw [kFull, hac, hr]
    show coresGoes k (tRow k (allR n es) n r) (coresShard (tRow k (allR n es) n r) (tab (fun _ => 0) n) (tri es n)) v = _
    have hy := coresShard_nth (xs := tRow k (allR n es) n r) (v := v) (tri es n) (tab (fun _ => 0) n) (by rw [tab_length]; exact hv) (Words.tab n (fun _ => by omega))
    rw [nth_tab _ _ _ hv] at hy
    have hci := cnt_in (tRow k (allR n es) n r) v (tri es n)
    have hte := tri_eq G.rise G.lt1
    have htl : (tri es n).length ≤ 300 := by rw [hte, List.length_map]; exact G.len
    rw [Int.zero_add, word_id hci.1 (by omega)] at hy
    unfold coresGoes goesT
    rw [hy]
    rcases hb v with h0 | h1
    · simp [h0]
    · rw [hte, cnt_dsum hb (fun e => (lead es e.1).length) h1 es hlt]
      have hdb := dsum_bits hb (row (allR n es) v)
      rw [h1, Bool.eq_iff_iff]
      simp
      omega
  intro r
  induction r with
  | zero =>
    have h0 : kCurAt 4 k n (tri es n) 0 = tRow k (allR n es) n 0 := tab_replicate n 1
    exact ⟨h0, goes 0 h0⟩
  | succ r ih =>
    have h0 : kCurAt 4 k n (tri es n) (r + 1) = tRow k (allR n es) n (r + 1) := by
      rw [kCurAt_succ]
      show tab (coresCur k (kCurAt 4 k n (tri es n) r) (kFull 4 k n (tri es n) r)) n = _
      refine list_ext_nth (by rw [tab_length, tRow_length]) fun v hv => ?_
      rw [tab_length] at hv
      rw [nth_tab _ _ _ hv, tRow, nth_dropAll]
      unfold coresCur
      rw [ih.2 v hv, ih.1]
      by_cases hg : goesT k (allR n es) (tRow k (allR n es) n r) v = true
      · rw [if_pos hg, if_pos (mem_goneL.2 ⟨hv, hg⟩)]
      · rw [if_neg hg, if_neg (fun q => hg (mem_goneL.1 q).2)]
    exact ⟨h0, goes (r + 1) h0⟩
theorem core_run {es : List (Nat × Nat)} {n k m : Nat} (G : Graphy n es) (hm : m ≤ n) (h1 : goneL k (allR n es) (tRow k (allR n es) n m) n = []) (h2 : ∀ i, i < m → goneL k (allR n es) (tRow k (allR n es) n i) n ≠ []) : IsRun 4 k n (tri es n) (tRow k (allR n es) n m) (m + 1) := by
  have hd : ∀ r, kDone 4 k r (kCurAt 4 k n (tri es n) r) (kFull 4 k n (tri es n) r) = true ↔ goneL k (allR n es) (tRow k (allR n es) n r) n = [] := fun r => by
    show coresDone k (kCurAt 4 k n (tri es n) r) (kFull 4 k n (tri es n) r) = true ↔ _
    unfold coresDone
    rw [allTo_iff, (kState_length 4 k n (tri es n) r).1]
    constructor
    · intro ha
      rw [List.eq_nil_iff_forall_not_mem]
      intro v hv
      obtain ⟨hvn, hg⟩ := mem_goneL.1 hv
      have := ha v hvn
      unfold coresSame at this
      rw [(core_row G r).2 v hvn, hg] at this
      simp at this
    · intro he v hv
      unfold coresSame
      rw [(core_row G r).2 v hv]
      by_cases hg : goesT k (allR n es) (tRow k (allR n es) n r) v = true
      · have := mem_goneL.2 ⟨hv, hg⟩
        rw [he] at this
        simp at this
      · simp at hg
        simp [hg]
  refine ⟨by omega, by simp; omega, ?_, ?_⟩
  · rw [(core_row G (m + 1)).1, tRow, h1]; rfl
  · intro r hr
    by_cases e : r = m
    · subst e
      rw [(hd r).2 h1]; simp
    · have : ¬ (kDone 4 k r (kCurAt 4 k n (tri es n) r) (kFull 4 k n (tri es n) r) = true) := fun q => h2 r (by omega) ((hd r).1 q)
      simp at this
      rw [this]
      simp; omega
end Go.Proofs.YtedljgohmlilgaaGreat
