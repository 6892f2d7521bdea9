/-
  truth.far: distances by a queue: what they are.
-/
import Derived.Test.YtedljgohmlilgaaGreatTQ
namespace Go.Proofs.YtedljgohmlilgaaGreat
open Go.RowKit
set_option linter.unusedVariables false
set_option linter.unusedSimpArgs false

def fars (xs : List Int) : Nat := xs.countP fun x => decide (x = far)
theorem fars_le (xs : List Int) : fars xs ≤ xs.length := List.countP_le_length
theorem fars_replicate (n : Nat) : fars (List.replicate n far) = n := by simp [fars, List.countP_replicate]
theorem fars_set {xs : List Int} : ∀ {v : Nat} {a : Int}, v < xs.length → nth xs v = far → a ≠ far → fars (xs.set v a) + 1 = fars xs := by
  induction xs with
  | nil => intro v a h; simp at h
  | cons x xs ih =>
    intro v a h hv ha
    cases v with
    | zero =>
      simp [nth] at hv
      simp [fars, hv, ha]
    | succ v =>
      have := ih (v := v) (a := a) (by simpa using h) (by simpa [nth] using hv) ha
      simp only [fars, List.set_cons_succ, List.countP_cons] at this ⊢
      omega
theorem nth_replicate {n i : Nat} {x : Int} (h : i < n) : nth (List.replicate n x) i = x := by
  unfold nth; rw [List.getD_eq_getElem?_getD, List.getElem?_replicate, if_pos h]; rfl

/-- Between two rounds: what has been told of distances, and who waits in the queue. -/
structure DistI (ts : List (List Nat)) (n s : Nat) (out : List Int) (q : List Nat) : Prop where
  len : out.length = n
  zero : nth out s = 0
  qin : ∀ x ∈ q, x < n ∧ nth out x ≠ far
  sorted : q.Pairwise (fun x y => nth out x ≤ nth out y)
  top : ∀ x q', q = x :: q' → ∀ v, v < n → nth out v ≠ far → nth out v ≤ nth out x + 1
  done : ∀ u, u < n → nth out u ≠ far → u ∉ q → ∀ v ∈ row ts u, nth out v ≠ far ∧ nth out v ≤ nth out u + 1
  back : ∀ v, v < n → nth out v ≠ far → v ≠ s → ∃ u, u < n ∧ v ∈ row ts u ∧ nth out u ≠ far ∧ nth out v = nth out u + 1
  low : ∀ v, v < n → nth out v ≠ far → 0 ≤ nth out v ∧ nth out v + fars out < n
  few : q.length + fars out ≤ n

theorem nth_set_ne {xs : List Int} {i j : Nat} {v : Int} (h : i ≠ j) : nth (xs.set i v) j = nth xs j := by rw [nth_set, if_neg (fun e => h e.1)]
theorem nth_set_eq {xs : List Int} {i : Nat} {v : Int} (h : i < xs.length) : nth (xs.set i v) i = v := by rw [nth_set, if_pos ⟨rfl, h⟩]

theorem DistI.start (ts : List (List Nat)) {n s : Nat} (hs : s < n) (hn : n ≤ 256) : DistI ts n s ((List.replicate n far).set s 0) [s] := by
  have h0 : nth ((List.replicate n far).set s 0) s = 0 := nth_set_eq (by simpa using hs)
  have hf : ∀ v, v < n → nth ((List.replicate n far).set s 0) v ≠ far → v = s := fun v hv h => by
    by_cases e : s = v
    · exact e.symm
    · rw [nth_set_ne e, nth_replicate hv] at h; exact absurd rfl h
  have hc : fars ((List.replicate n far).set s 0) + 1 = n := by
    rw [fars_set (by simpa using hs) (nth_replicate hs) (by unfold far; omega), fars_replicate]
  refine ⟨by simp, h0, ?_, List.pairwise_singleton _ _, ?_, ?_, ?_, ?_, by simp; omega⟩
  · intro x hx
    simp at hx
    subst hx
    exact ⟨hs, by rw [h0]; unfold far; omega⟩
  · intro x q' e v hv h
    cases e
    rw [hf v hv h, h0]; omega
  · intro u hu h hq
    exact absurd (by simp [hf u hu h]) hq
  · intro v hv h hne
    exact absurd (hf v hv h) hne
  · intro v hv h
    rw [hf v hv h, h0]
    omega

theorem DistI.add {ts : List (List Nat)} {n s x v : Nat} {out : List Int} {q : List Nat} (h : DistI ts n s out (x :: q)) (hn : n ≤ 256) (hv : v < n) (hr : v ∈ row ts x) (hf : nth out v = far) : DistI ts n s (out.set v (nth out x + 1)) (x :: (q ++ [v])) ∧ nth out x + 1 ≠ far ∧ fars (out.set v (nth out x + 1)) + 1 = fars out := by
  have hx := h.qin x (by simp)
  have hxl := h.low x hx.1 hx.2
  have hd : nth out x + 1 ≠ far := by unfold far; omega
  have hvl : v < out.length := by rw [h.len]; exact hv
  have hc := fars_set hvl hf hd
  have hxv : v ≠ x := fun e => hx.2 (e ▸ hf)
  have e1 : nth (out.set v (nth out x + 1)) v = nth out x + 1 := nth_set_eq hvl
  have e2 : ∀ y, nth out y ≠ far → nth (out.set v (nth out x + 1)) y = nth out y := fun y hy => nth_set_ne (fun e => hy (e ▸ hf))
  have e3 : ∀ y, nth (out.set v (nth out x + 1)) y ≠ far → y ≠ v → nth out y ≠ far := fun y hy hne => by rwa [nth_set_ne (Ne.symm hne)] at hy
  refine ⟨⟨by simp [h.len], ?_, ?_, ?_, ?_, ?_, ?_, ?_, ?_⟩, hd, hc⟩
  · rw [e2 s (by rw [h.zero]; unfold far; omega)]; exact h.zero
  · intro y hy
    rw [← List.cons_append, List.mem_append] at hy
    rcases hy with hy | hy
    · have := h.qin y hy
      exact ⟨this.1, by rw [e2 y this.2]; exact this.2⟩
    · simp at hy
      subst hy
      exact ⟨hv, by rw [e1]; exact hd⟩
  · rw [← List.cons_append, List.pairwise_append]
    refine ⟨?_, List.pairwise_singleton _ _, ?_⟩
    · refine List.Pairwise.imp_of_mem ?_ h.sorted
      intro a b ha hb hab
      rw [e2 a (h.qin a ha).2, e2 b (h.qin b hb).2]; exact hab
    · intro a ha b hb
      simp at hb
      subst hb
      rw [e1, e2 a (h.qin a ha).2]
      exact h.top x q rfl a (h.qin a ha).1 (h.qin a ha).2
  · intro y q' e u hu hne
    cases e
    rw [e2 x hx.2]
    by_cases eu : u = v
    · subst eu; rw [e1]; omega
    · rw [nth_set_ne (Ne.symm eu)]
      exact h.top x q rfl u hu (e3 u hne eu)
  · intro u hu hne hq y hy
    have huv : u ≠ v := fun e => hq (by rw [e]; simp)
    have hu' := e3 u hne huv
    have := h.done u hu hu' (fun hm => hq (by rw [← List.cons_append]; exact List.mem_append_left _ hm)) y hy
    rw [e2 u hu', e2 y this.1]
    exact this
  · intro y hy hne hs
    by_cases ey : y = v
    · subst ey
      exact ⟨x, hx.1, hr, by rw [e2 x hx.2]; exact hx.2, by rw [e1, e2 x hx.2]⟩
    · obtain ⟨u, hu, hm, hf', he⟩ := h.back y hy (e3 y hne ey) hs
      exact ⟨u, hu, hm, by rw [e2 u hf']; exact hf', by rw [e2 u hf', nth_set_ne (Ne.symm ey)]; exact he⟩
  · intro y hy hne
    by_cases ey : y = v
    · subst ey
      rw [e1]; omega
    · rw [nth_set_ne (Ne.symm ey)]
      have := h.low y hy (e3 y hne ey)
      omega
  · have := h.few
    simp at this ⊢
    omega

theorem set_keeps {out : List Int} {v y : Nat} {a : Int} (hf : nth out v = far) (hy : nth out y ≠ far) : nth (out.set v a) y = nth out y := nth_set_ne (fun e => hy (e ▸ hf))

theorem DistI.pop {ts : List (List Nat)} {n s x : Nat} {out : List Int} {q : List Nat} (h : DistI ts n s out (x :: q)) (hd : ∀ v ∈ row ts x, nth out v ≠ far ∧ nth out v ≤ nth out x + 1) : DistI ts n s out q := by
  refine ⟨h.len, h.zero, fun y hy => h.qin y (by simp [hy]), (List.pairwise_cons.1 h.sorted).2, ?_, ?_, h.back, h.low, by have := h.few; simp at this; omega⟩
  · intro y q' e v hv hne
    have h1 := h.top x q rfl v hv hne
    have h2 := (List.pairwise_cons.1 h.sorted).1 y (by rw [e]; simp)
    omega
  · intro u hu hne hq
    by_cases e : u = x
    · subst e; exact hd
    · exact h.done u hu hne (by simp [e, hq])

/-- The distances from s. -/
structure Dist (ts : List (List Nat)) (n s : Nat) (out : List Int) : Prop where
  len : out.length = n
  zero : nth out s = 0
  step : ∀ u, u < n → nth out u ≠ far → ∀ v ∈ row ts u, nth out v ≠ far ∧ nth out v ≤ nth out u + 1
  back : ∀ v, v < n → nth out v ≠ far → v ≠ s → ∃ u, u < n ∧ v ∈ row ts u ∧ nth out u ≠ far ∧ nth out v = nth out u + 1
  low : ∀ v, v < n → nth out v ≠ far → 0 ≤ nth out v ∧ nth out v < n
theorem DistI.dist {ts : List (List Nat)} {n s : Nat} {out : List Int} (h : DistI ts n s out []) : Dist ts n s out :=
  ⟨h.len, h.zero, fun u hu hne => h.done u hu hne (by simp), h.back, fun v hv hne => by have := h.low v hv hne; omega⟩

/-! ### The walk -/
def qlen : Value → Nat
  | .slice _ n _ => n
  | _ => 0
def isFarV : Value → Bool
  | .int .u64 x => decide (x = far)
  | _ => false
def farsAt (w : World) (g : Nat) : Nat := match w.heap[g]? with
  | some (.cells c _ _) => c.toList.countP isFarV
  | _ => 0
theorem farsAt_eq {w : World} {g : Nat} {xs : List Int} (h : U64s w g xs) : farsAt w g = fars xs := by
  unfold farsAt
  rw [show w.heap[g]? = _ from h]
  simp only [List.countP_map, fars]
  rfl

theorem row_mem {ts : List (List Nat)} {x v : Nat} : v ∈ row ts x ↔ ∃ j, j < (row ts x).length ∧ nat (row ts x) j = v := by
  rw [List.mem_iff_getElem]
  constructor
  · rintro ⟨j, hj, e⟩
    exact ⟨j, hj, by rw [nat_eq hj]; exact e⟩
  · rintro ⟨j, hj, e⟩
    exact ⟨j, hj, by rw [← nat_eq hj]; exact e⟩

set_option maxRecDepth 100000 in
set_option maxHeartbeats 8000000 in
theorem tfar_ok (ts : List (List Nat)) (n s : Nat) (a : Option Addr) (c : Nat) (L : List Nat) (w : World) (h : IsOut w L a ts) (hl : ts.length = n) (hs : s < n) (hn : n ≤ 256) (hw : Within ts n) (hsz : ∀ j, (row ts j).length ≤ 1000000) :
    Calls Tryz.prog 34 #[.slice a n c, .int .i64 s] w fun e w' => ∃ g out, e = .returned (.slice (some ⟨g, 0, none⟩) n n) ∧ w.heap.size ≤ g ∧ Kept [] w w' ∧ U64s w' g out ∧ Dist ts n s out := by
  have HW := hid hw
  have HZ := hid hsz
  have HO := hid h
  clear hw hsz h
  obtain ⟨B, hB⟩ : ∃ B, B = w.heap.size := ⟨_, rfl⟩
  have HB := hid hB
  clear hB
  go_enter Tryz.func34, Tryz.ntmps34
  go_wp2_with fail
  refine (tfill_ok n 18446744073709551615 w (by omega) hn).mono ?_
  rintro e w1 ⟨g, rfl, hg, hk1, hu1⟩
  have hgl : g < w1.heap.size := hu1.lt
  have c1 : w1.cell? ⟨g, s, none⟩ = some (.int .u64 18446744073709551615) := by rw [hu1.cell (by simpa using hs), nth_replicate hs]
  have c2 := hu1.free s
  have K1 := hid (hk1.setCell (p := ⟨g, s, none⟩) (.inr hg) (.int .u64 0))
  have U1 := hid (hu1.set s 0)
  have HG := hid hg
  clear hk1 hu1 hg
  have KB := hid (show Kept [] w ((w1.setCell ⟨g, s, none⟩ (.int .u64 0)).alloc (.cells #[.int .i64 (s : Int)] 3)) from K1.out.alloc _)
  have UB := hid (show U64s ((w1.setCell ⟨g, s, none⟩ (.int .u64 0)).alloc (.cells #[.int .i64 (s : Int)] 3)) g ((List.replicate n far).set s 0) from U1.out.kept ((Kept.refl [] _).alloc _) (by simp))
  have QB := hid (show IsQ ((w1.setCell ⟨g, s, none⟩ (.int .u64 0)).alloc (.cells #[.int .i64 (s : Int)] 3)) B (.slice (some ⟨w1.heap.size, 0, none⟩) 1 1) [s] from IsQ.one s (by simp) (by have := HB.out; have := K1.out.size; omega))
  have D0 := hid (DistI.start ts hs hn)
  go_wp2_with fail
  clear c1 c2
  go_loopw [6] (fun q wr => ∃ out xs, IsQ wr B q xs ∧ U64s wr g out ∧ Kept [] w wr ∧ DistI ts n s out xs) (fun q wr => qlen q + farsAt wr g)
  case atStart => exact ⟨_, [s], QB.out, UB.out, KB.out, D0.out⟩
  case round =>
    obtain ⟨out, xs, hq, hu, hK, hD⟩ := hrel
    cases xs with
    | nil =>
      obtain ⟨g2, off, cap, rfl, hBg, hg2, hlc, hcell⟩ := hq.slice
      have HD := hid hD.dist
      clear hD
      go_wp2
      go_ret
      exact ⟨g, out, rfl, HG.out, hK, hu, HD.out⟩
    | cons x xs =>
      obtain ⟨g2, off, cap, rfl, hBg, hg2, hlc, hcell⟩ := hq.slice
      rw [List.length_cons] at hq hlc ⊢
      have hx := hD.qin x (by simp)
      have hxn : x < n := hx.1
      have e0 : wr.cell? ⟨g2, off, none⟩ = some (.int .i64 (x : Int)) := by have := hcell 0 (by simp); simpa [nat] using this
      obtain ⟨b, o, rfl, hb, u, cu, hc, hN⟩ := HO.out.cells x (by omega)
      replace hc := hK.cell_some hc (by simp)
      have hz := HZ.out x
      have HN := hid hN
      have HQ := hid hq
      have HU := hid hu
      have HK := hid hK
      have HD := hid hD
      have HX := hid hx
      obtain ⟨M, hM⟩ : ∃ M, M = (xs.length + 1) + fars out := ⟨_, rfl⟩
      have HM := hid hM
      have HFA := hid (farsAt_eq hu)
      clear hq hu hK hD hx hcell hN hM
      obtain ⟨ln, hln⟩ : ∃ ln, ln = (row ts x).length := ⟨_, rfl⟩
      rw [← hln] at hc hz
      have HLN := hid hln
      clear hln
      go_wp2_with fail
      obtain ⟨wo, rfl⟩ : ∃ wo : World, wo = wr := ⟨_, rfl⟩
      go_loopw [6, 9, 31] (fun q _ jv wi => ∃ (j : Nat) (out2 : List Int) (xs2 : List Nat), j ≤ ln ∧ jv = .int .i64 j ∧ IsQ wi B q (x :: xs2) ∧ U64s wi g out2 ∧ Kept [] w wi ∧ DistI ts n s out2 (x :: xs2) ∧ (∀ i, i < j → nth out2 (nat (row ts x) i) ≠ far ∧ nth out2 (nat (row ts x) i) ≤ nth out2 x + 1) ∧ xs2.length + 1 + fars out2 = M) (fun _ _ jv _ => ln - (intOf jv).toNat)
      case atStart => exact ⟨0, out, xs, Nat.zero_le _, rfl, HQ.out, HU.out, HK.out, HD.out, by intro i hi; omega, HM.out.symm⟩
      case round =>
        obtain ⟨j, out2, xs2, hj, rfl, hq, hu, hK, hD, hdone, hM2⟩ := hrel
        obtain ⟨g3, off3, cap3, rfl, hBg3, hg3, hlc3, hcell3⟩ := hq.slice
        rw [List.length_cons] at hq hlc3 ⊢
        clear hcell3
        by_cases hlt : j < ln
        · obtain ⟨b', o', rfl, hb', hcn⟩ := (HN.out.kept hK (by simp)).cells j (by rw [← HLN.out]; exact hlt)
          obtain ⟨v, hv⟩ : ∃ v, v = nat (row ts x) j := ⟨_, rfl⟩
          have hvn : v < n := by rw [hv]; exact HW.out x (by omega) j (by rw [← HLN.out]; exact hlt)
          have hmem : v ∈ row ts x := row_mem.2 ⟨j, by rw [← HLN.out]; exact hlt, hv.symm⟩
          rw [← hv] at hcn
          have hlen := hD.len
          obtain ⟨z, hz'⟩ : ∃ z, z = nth out2 v := ⟨_, rfl⟩
          obtain ⟨d, hd'⟩ : ∃ d, d = nth out2 x := ⟨_, rfl⟩
          have cv : wr.cell? ⟨g, v, none⟩ = some (.int .u64 z) := by rw [hu.cell (by rw [hlen]; exact hvn), ← hz']
          have cx : wr.cell? ⟨g, x, none⟩ = some (.int .u64 d) := by rw [hu.cell (by rw [hlen]; exact hxn), ← hd']
          have fv := hu.free v
          have hdl : 0 ≤ d ∧ d + fars out2 < n := by rw [hd']; exact hD.low x hxn (hD.qin x (by simp)).2
          have hfew := hD.few
          have HV := hid hv
          have HVZ := hid hz'
          have HVD := hid hd'
          have QQ := hid hq
          have UU := hid hu
          have KK := hid hK
          have DD := hid hD
          have HDN := hid hdone
          have HMM := hid hM2
          clear hv hz' hd' hq hu hK hD hdone hM2 hlen
          by_cases hf : z = far
          · have d1 : (z == 18446744073709551615) = true := by rw [hf]; rfl
            have a1 : IntKind.u64.wrap (d + 1) = d + 1 := IntWalk.u64_in _ (by omega)
            have ADD := hid (DD.out.add hn hvn hmem (by rw [← HVZ.out]; exact hf))
            have Q2 := hid (show IsQ (wr.setCell ⟨g, v, none⟩ (.int .u64 (d + 1))) B (.slice (some ⟨g3, off3, none⟩) (xs2.length + 1) cap3) (x :: xs2) from QQ.out.kept (S := [g]) ((Kept.refl [g] wr).setCell (p := ⟨g, v, none⟩) (.inl (by simp)) _) (fun j e => by simp; rintro rfl; exact QQ.out.ne UU.out (by decide) e))
            have U2 := hid (UU.out.set v (d + 1))
            have K2 := hid (KK.out.setCell (p := ⟨g, v, none⟩) (.inr HG.out) (.int .u64 (d + 1)))
            have hqb : B ≤ wr.heap.size := by omega
            have HFF := hid (show nth out2 v = far by rw [← HVZ.out]; exact hf)
            go_wp2_with (at_builtin; go_must (refine wpList_append_q rfl (.tmp 48) (.tmp 50) rfl B (.slice (some ⟨g3, off3, none⟩) (xs2.length + 1) cap3) (x :: xs2) rfl (Q2.out.kept ((Kept.refl [] _).alloc (.cells #[.int .i64 (v : Int)] 3)) (by simp)) ⟨wr.heap.size, 0, none⟩ 1 v rfl (new_cell (by simp)) (by simp at hfew ⊢; omega) (by simp; omega) ?_); intro g5 off5 cap5 w5 hq5 hg5; have U5 := hid (show U64s w5 g (out2.set v (d + 1)) from grown_keeps hg5 (obj_alloc_old U2.out _) (Q2.out.ne U2.out (by decide))); have K5 := hid ((K2.out.alloc (.cells #[.int .i64 (v : Int)] 3)).grown hg5 (fun k e => .inr (by have := (Q2.out.lt k e).1; have := HB.out; omega))); have Q5 := hid hq5; clear hq5 hg5)
            go_roundw
            have hA := ADD.out
            rw [← HVD.out] at hA
            have hxf : nth out2 x ≠ far := (DD.out.qin x (by simp)).2
            case rel => exact ⟨j + 1, out2.set v (d + 1), xs2 ++ [v], by omega, by go_num, Q5.out, U5.out, K5.out, hA.1, fun i hi => by
                rw [set_keeps HFF.out hxf]
                rcases Nat.lt_or_ge i j with h | h
                · have := HDN.out i h
                  rw [set_keeps HFF.out this.1]
                  exact this
                · obtain rfl : i = j := by omega
                  rw [← HV.out, nth_set_eq (by rw [DD.out.len]; exact hvn), ← HVD.out]
                  exact ⟨hA.2.1, Int.le_refl _⟩, by have := hA.2.2; have := HMM.out; simp; omega⟩
            case measure => simp [intOf]; omega
          · have d1 : (z == 18446744073709551615) = false := by rw [beq_eq_false_iff_ne]; exact hf
            go_wp2_with fail
            exact ⟨⟨j + 1, out2, xs2, by omega, by go_num, QQ.out, UU.out, KK.out, DD.out, fun i hi => by
              rcases Nat.lt_or_ge i j with h | h
              · exact HDN.out i h
              · obtain rfl : i = j := by omega
                rw [← HV.out, ← HVZ.out]
                refine ⟨hf, ?_⟩
                rw [HVZ.out]
                exact DD.out.top x xs2 rfl v hvn (by rw [← HVZ.out]; exact hf), HMM.out⟩, by simp [intOf]; omega⟩
        · obtain rfl : ln = j := by omega
          have DP := hid (hD.pop (fun v hv => by
            obtain ⟨i, hi, rfl⟩ := row_mem.1 hv
            exact hdone i (by rw [HLN.out]; exact hi)))
          have UU := hid hu
          have KK := hid hK
          have QQ := hid hq
          have HMM := hid hM2
          clear hq hu hK hD hdone hM2
          go_wp2
          exact ⟨⟨out2, xs2, QQ.out.tail, UU.out, KK.out, DP.out⟩, by
            rw [farsAt_eq UU.out, HFA.out]
            show xs2.length + fars out2 < xs.length + 1 + fars out
            have := HMM.out
            have := HM.out
            omega⟩
end Go.Proofs.YtedljgohmlilgaaGreat
