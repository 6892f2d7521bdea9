/-
  The walk of truth's labels.
-/
import Derived.Test.YtedljgohmlilgaaGreatTCore
namespace Go.Proofs.YtedljgohmlilgaaGreat
open Go.RowKit
set_option linter.unusedVariables false
set_option linter.unusedSimpArgs false

/-- Labels told so far: of each vertex that has one its root, and how far it is. -/
structure LabI (ts : List (List Nat)) (n v : Nat) (out : List Int) (most : Int) (rt : Nat → Nat) (f : Nat → Int) : Prop where
  len : out.length = n
  seen : ∀ u, u < v → u < n → nth out u ≠ far
  val : ∀ u, u < n → nth out u ≠ far → nth out u = rt u ∧ rt u ≤ u ∧ 0 ≤ f u ∧ f u ≤ most ∧ f u < n
  closed : ∀ u, u < n → nth out u ≠ far → ∀ x ∈ row ts u, nth out x ≠ far ∧ rt x = rt u ∧ f x ≤ f u + 1
  back : ∀ u, u < n → nth out u ≠ far → (f u = 0 ∧ rt u = u) ∨ (rt u ≠ u ∧ ∃ x, x < n ∧ u ∈ row ts x ∧ nth out x ≠ far ∧ f u = f x + 1)
  top : most = 0 ∨ ∃ u, u < n ∧ nth out u ≠ far ∧ f u = most
  low : 0 ≤ most ∧ most ≤ n

def mark (l : List Int) (v : Int) : Nat → List Int → List Int
  | 0, xs => xs
  | j + 1, xs => if nth l j = far then mark l v j xs else (mark l v j xs).set j v
theorem mark_length (l : List Int) (v : Int) (j : Nat) (xs : List Int) : (mark l v j xs).length = xs.length := by
  induction j with
  | zero => rfl
  | succ j ih => rw [mark]; split <;> simp [ih]
theorem nth_mark (l : List Int) (v : Int) (j : Nat) (xs : List Int) (i : Nat) : nth (mark l v j xs) i = if i < j ∧ nth l i ≠ far ∧ i < xs.length then v else nth xs i := by
  induction j with
  | zero => rw [mark, if_neg (by omega)]
  | succ j ih =>
    rw [mark]
    by_cases hf : nth l j = far
    · rw [if_pos hf, ih]
      by_cases e : i = j
      · subst e
        rw [if_neg (by omega), if_neg (fun q => q.2.1 hf)]
      · have : i < j + 1 ↔ i < j := by omega
        simp only [this]
    · rw [if_neg hf, nth_set, mark_length, ih]
      by_cases e : j = i
      · subst e
        by_cases hl : j < xs.length
        · rw [if_pos ⟨rfl, hl⟩, if_pos ⟨by omega, hf, hl⟩]
        · rw [if_neg (fun q => hl q.2), if_neg (by omega), if_neg (fun q => hl q.2.2)]
      · rw [if_neg (fun q => e q.1)]
        have : i < j + 1 ↔ i < j := by omega
        simp only [this]

theorem LabI.start (ts : List (List Nat)) (n : Nat) : LabI ts n 0 (List.replicate n far) 0 (fun u => u) (fun _ => 0) :=
  ⟨by simp, by omega, fun u hu h => absurd (nth_replicate hu) h, fun u hu h => absurd (nth_replicate hu) h, fun u hu h => absurd (nth_replicate hu) h, .inl rfl, by omega⟩
theorem LabI.skip {ts : List (List Nat)} {n v : Nat} {out : List Int} {most : Int} {rt : Nat → Nat} {f : Nat → Int} (h : LabI ts n v out most rt f) (hv : nth out v ≠ far) : LabI ts n (v + 1) out most rt f :=
  ⟨h.len, fun u hu hn => by
    rcases Nat.lt_or_ge u v with hl | hl
    · exact h.seen u hl hn
    · obtain rfl : u = v := by omega
      exact hv, h.val, h.closed, h.back, h.top, h.low⟩

/-- Who is reached from one that has none has none. -/
theorem LabI.apart {ts : List (List Nat)} {n v : Nat} {out l : List Int} {most : Int} {rt : Nat → Nat} {f : Nat → Int} (h : LabI ts n v out most rt f) (hsym : ∀ u x, u < n → x < n → x ∈ row ts u → u ∈ row ts x) (hv : nth out v = far) (hd : Dist ts n v l) :
    ∀ (d : Nat) (u : Nat), u < n → nth l u = d → nth l u ≠ far → nth out u = far := by
  intro d
  induction d with
  | zero =>
    intro u hu h0 hf
    by_cases e : u = v
    · rw [e]; exact hv
    · obtain ⟨x, hx, hm, hxf, he⟩ := hd.back u hu hf e
      have := (hd.low x hx hxf).1
      omega
  | succ d ih =>
    intro u hu h0 hf
    by_cases e : u = v
    · rw [e]; exact hv
    · obtain ⟨x, hx, hm, hxf, he⟩ := hd.back u hu hf e
      have h1 := ih x hx (by omega) hxf
      by_cases hc : nth out u = far
      · exact hc
      · exact absurd h1 (h.closed u hu hc x (hsym x u hx hu hm)).1

theorem LabI.next {ts : List (List Nat)} {n v : Nat} {out l : List Int} {most : Int} {rt : Nat → Nat} {f : Nat → Int} (h : LabI ts n v out most rt f) (hsym : ∀ u x, u < n → x < n → x ∈ row ts u → u ∈ row ts x) (hw : ∀ u, u < n → ∀ x ∈ row ts u, x < n) (hvn : v < n) (hn : n ≤ 256) (hv : nth out v = far) (hd : Dist ts n v l) :
    LabI ts n (v + 1) (mark l v n out) (max most (gm l n)) (fun u => if nth l u = far then rt u else v) (fun u => if nth l u = far then f u else nth l u) := by
  have ap : ∀ u, u < n → nth l u ≠ far → nth out u = far := fun u hu hf => by
    have hl := hd.low u hu hf
    exact h.apart hsym hv hd (nth l u).toNat u hu (by omega) hf
  have hvf : (v : Int) ≠ far := by unfold far; omega
  have e1 : ∀ u, u < n → nth l u ≠ far → nth (mark l v n out) u = v := fun u hu hf => by rw [nth_mark, if_pos ⟨hu, hf, by rw [h.len]; exact hu⟩]
  have e2 : ∀ u, nth l u = far → nth (mark l v n out) u = nth out u := fun u hf => by rw [nth_mark, if_neg (fun q => q.2.1 hf)]
  have g1 := gm_in hd.low n (Nat.le_refl _)
  have g2 := fun u (hu : u < n) hf => gm_ge (out := l) n u hu hf
  have hl0 : nth l v ≠ far := by rw [hd.zero]; unfold far; omega
  have hlo := h.low
  refine ⟨by rw [mark_length]; exact h.len, ?_, ?_, ?_, ?_, ?_, by omega⟩
  · intro u hu hun
    by_cases hf : nth l u = far
    · rw [e2 u hf]
      rcases Nat.lt_or_ge u v with hl | hl
      · exact h.seen u hl hun
      · obtain rfl : u = v := by omega
        exact absurd hf hl0
    · rw [e1 u hun hf]; exact hvf
  · intro u hu hne
    by_cases hf : nth l u = far
    · rw [e2 u hf] at hne ⊢
      simp only [hf, if_true]
      have := h.val u hu hne
      refine ⟨this.1, this.2.1, this.2.2.1, by omega, this.2.2.2.2⟩
    · rw [e1 u hu hf]
      simp only [hf, if_false]
      have hl := hd.low u hu hf
      have := g2 u hu hf
      refine ⟨trivial, ?_, hl.1, by omega, hl.2⟩
      rcases Nat.lt_or_ge u v with hlt | hge
      · exact absurd (ap u hu hf) (h.seen u hlt hu)
      · exact hge
  · intro u hu hne x hx
    have hxn := hw u hu x hx
    by_cases hf : nth l u = far
    · rw [e2 u hf] at hne
      have hc := h.closed u hu hne x hx
      have hxf : nth l x = far := by
        by_cases hq : nth l x = far
        · exact hq
        · exact absurd (ap x hxn hq) hc.1
      rw [e2 x hxf]
      simp only [hf, hxf, if_true]
      exact hc
    · have hs := hd.step u hu hf x hx
      rw [e1 x hxn hs.1]
      simp only [hf, hs.1, if_false]
      exact ⟨hvf, trivial, hs.2⟩
  · intro u hu hne
    by_cases hf : nth l u = far
    · rw [e2 u hf] at hne
      simp only [hf, if_true]
      rcases h.back u hu hne with hb | ⟨h1, x, hx, hm, hxo, he⟩
      · exact .inl hb
      · right
        have hxf : nth l x = far := by
          by_cases hq : nth l x = far
          · exact hq
          · exact absurd (ap x hx hq) hxo
        exact ⟨h1, x, hx, hm, by rw [e2 x hxf]; exact hxo, by simp only [hxf, if_true]; exact he⟩
    · simp only [hf, if_false]
      by_cases e : u = v
      · left
        rw [e]
        exact ⟨hd.zero, rfl⟩
      · right
        obtain ⟨x, hx, hm, hxf, he⟩ := hd.back u hu hf e
        exact ⟨fun q => e q.symm, x, hx, hm, by rw [e1 x hx hxf]; exact hvf, by simp only [hxf, if_false]; exact he⟩
  · by_cases hg : most < gm l n
    · rcases gm_at (out := l) n with h0 | ⟨u, hu, hf, he⟩
      · omega
      · right
        exact ⟨u, hu, by rw [e1 u hu hf]; exact hvf, by simp only [hf, if_false]; omega⟩
    · rw [show max most (gm l n) = most by omega]
      rcases h.top with h0 | ⟨u, hu, hne, he⟩
      · exact .inl h0
      · right
        have hf : nth l u = far := by
          by_cases hq : nth l u = far
          · exact hq
          · exact absurd (ap u hu hq) hne
        exact ⟨u, hu, by rw [e2 u hf]; exact hne, by simp only [hf, if_true]; exact he⟩

set_option maxRecDepth 100000 in
set_option maxHeartbeats 8000000 in
theorem tlabels_ok (ts : List (List Nat)) (n : Nat) (oa aa : Option Addr) (L : List Nat) (w : World) (h : IsOut w L aa ts) (hl : ts.length = n) (hn1 : 1 ≤ n) (hn : n ≤ 256) (hw : Within ts n) (hsz : ∀ j, (row ts j).length ≤ 1000000) (hsym : ∀ u x, u < n → x < n → x ∈ row ts u → u ∈ row ts x) :
    Calls Tryz.prog 37 #[.agg #[.int .i64 n, .slice oa n n, .slice aa n n]] w fun e w' => ∃ g out most rt f, e = .returned (.tuple #[.slice (some ⟨g, 0, none⟩) n n, .int .i64 most]) ∧ w.heap.size ≤ g ∧ Kept [] w w' ∧ U64s w' g out ∧ LabI ts n n out most rt f := by
  have HW := hid hw
  have HZ := hid hsz
  have HO := hid h
  have HS := hid hsym
  have HWM := hid (show ∀ u, u < n → ∀ x ∈ row ts u, x < n from fun u hu x hx => by
    obtain ⟨j, hj, rfl⟩ := row_mem.1 hx
    exact hw u (by omega) j hj)
  clear hw hsz h hsym
  obtain ⟨bx, hbx⟩ : ∃ bx, bx = w.heap.size := ⟨_, rfl⟩
  obtain ⟨w0, hw0⟩ : ∃ w0, w0 = w.alloc (.cells #[.int .i64 (n : Int), .slice oa n n, .slice aa n n] 96) := ⟨_, rfl⟩
  have K0 := hid (show Kept [] w w0 by rw [hw0]; exact (Kept.refl _ _).alloc _)
  have G0 := hid (show GBox w0 bx n oa aa from ⟨by rw [hw0]; exact new_obj hbx⟩)
  have HW0 := hid hw0
  have HBX := hid hbx
  clear hw0 hbx
  have b0 : w0.cell? ⟨bx, 0, none⟩ = some (.int .i64 (n : Int)) := cell_of_obj G0.out.obj 0
  go_enter Tryz.func37, Tryz.ntmps37
  go_wp2_with fail
  rw [← HW0.out, ← HBX.out]
  go_wp2_with fail
  refine (tfill_ok n 18446744073709551615 w0 hn1 hn).mono ?_
  rintro e w1 ⟨g, rfl, hg, hk1, hu1⟩
  have hgw := hid (show w.heap.size ≤ g by have := K0.out.size; omega)
  have hbg := hid (show bx ≠ g by have := obj_lt G0.out.obj; omega)
  have K1 := hid (K0.out.trans hk1)
  have G1 := hid (G0.out.kept hk1)
  have U1 := hid hu1
  have b0' : w1.cell? ⟨bx, 0, none⟩ = some (.int .i64 (n : Int)) := cell_of_obj G1.out.obj 0
  clear hk1 hu1 hg b0
  go_wp2_with fail
  go_loopw [5, 15] (fun mv vv wr => ∃ (v : Nat) (out : List Int) (most : Int) (rt : Nat → Nat) (f : Nat → Int), v ≤ n ∧ vv = .int .i64 v ∧ mv = .int .i64 most ∧ U64s wr g out ∧ Kept [] w wr ∧ GBox wr bx n oa aa ∧ LabI ts n v out most rt f) (fun _ vv _ => n - (intOf vv).toNat)
  case atStart => exact ⟨0, _, 0, _, _, Nat.zero_le _, rfl, rfl, U1.out, K1.out, G1.out, LabI.start ts n⟩
  case round =>
    obtain ⟨v, out, most, rt, f, hv, rfl, rfl, hu, hK, hG, hI⟩ := hrel
    by_cases hlt : v < n
    · obtain ⟨z, hz⟩ : ∃ z, z = nth out v := ⟨_, rfl⟩
      have cz : wr.cell? ⟨g, v, none⟩ = some (.int .u64 z) := by rw [hz]; exact hu.cell (by rw [hI.len]; exact hlt)
      have HZV := hid hz
      have UU := hid hu
      have KK := hid hK
      have GG := hid hG
      have II := hid hI
      clear hz
      by_cases hf : z = far
      · have d1 : (z != 18446744073709551615) = false := by rw [hf]; rfl
        have HF := hid (show nth out v = far by rw [← HZV.out]; exact hf)
        have b2 : wr.cell? ⟨bx, 2, none⟩ = some (.slice aa n n) := cell_of_obj hG.obj 2
        have hlo := hI.low
        clear hu hK hG hI hf
        go_wp2_with fail
        refine (tfar_ok ts n v aa n L wr (HO.out.kept KK.out (by simp)) hl hlt hn HW.out HZ.out).mono ?_
        rintro e w2 ⟨g2, l, rfl, hg2, hk2, hu2, hd2⟩
        have hgl := UU.out.lt
        have hne : g ≠ g2 := by omega
        have K2 := hid (KK.out.trans hk2)
        have U2 := hid (UU.out.kept hk2 (by simp))
        have G2 := hid (GG.out.kept hk2)
        have V2 := hid hu2
        have D2 := hid hd2
        have hg2w := hid (show w.heap.size ≤ g2 by have := KK.out.size; omega)
        clear hk2 hu2 hd2 hg2 hgl b2 UU KK GG cz
        go_wp2_with fail
        go_loopw [8, 9, 29] (fun _ _ jv wi => ∃ j : Nat, j ≤ n ∧ jv = .int .i64 j ∧ U64s wi g (mark l v j out) ∧ U64s wi g2 l ∧ Kept [] w wi ∧ GBox wi bx n oa aa) (fun _ _ jv _ => n - (intOf jv).toNat)
        case atStart => exact ⟨0, Nat.zero_le _, rfl, U2.out, V2.out, K2.out, G2.out⟩
        case round =>
          obtain ⟨j, hj, rfl, hu, hv2, hK, hG⟩ := hrel
          by_cases hlt3 : j < n
          · obtain ⟨y, hy⟩ : ∃ y, y = nth l j := ⟨_, rfl⟩
            have cy : wr.cell? ⟨g2, j, none⟩ = some (.int .u64 y) := by rw [hy]; exact hv2.cell (by rw [D2.out.len]; exact hlt3)
            have cx := hu.cell (i := j) (by rw [mark_length, II.out.len]; exact hlt3)
            have fx := hu.free j
            have a1 : IntKind.u64.wrap (v : Int) = v := IntWalk.u64_in _ (by omega)
            have HY := hid hy
            have UU := hid hu
            have VV := hid hv2
            have KK := hid hK
            have GG := hid hG
            clear hu hv2 hK hG hy
            by_cases hyf : y = far
            · have d2 : (y != 18446744073709551615) = false := by rw [hyf]; rfl
              have HM := hid (show mark l v (j + 1) out = mark l v j out by rw [mark, if_pos (by rw [← HY.out]; exact hyf)])
              clear hyf
              go_wp2
              exact ⟨⟨j + 1, by omega, by go_num, by rw [HM.out]; exact UU.out, VV.out, KK.out, GG.out⟩, by simp [intOf]; omega⟩
            · have d2 : (y != 18446744073709551615) = true := by rw [bne_iff_ne]; exact hyf
              have HM := hid (show mark l v (j + 1) out = (mark l v j out).set j v by rw [mark, if_neg (by rw [← HY.out]; exact hyf)])
              clear hyf
              go_wp2
              exact ⟨⟨j + 1, by omega, by go_num, by rw [HM.out]; exact UU.out.set j v, VV.out.kept (S := [g]) ((Kept.refl [g] _).setCell (p := ⟨g, j, none⟩) (.inl (by simp)) _) (by simpa using Ne.symm hne), KK.out.setCell (p := ⟨g, j, none⟩) (.inr hgw.out) _, ⟨((Kept.refl [g] _).setCell (p := ⟨g, j, none⟩) (.inl (by simp)) _).obj GG.out.obj (by simpa using hbg.out)⟩⟩, by simp [intOf]; omega⟩
          · obtain rfl : n = j := by omega
            have UU := hid hu
            have KK := hid hK
            have GG := hid hG
            have NX := hid (II.out.next HS.out HWM.out hlt hn HF.out D2.out)
            go_wp2_with fail
            refine (tgreatest_ok l n g2 wr hv2 D2.out.len hn D2.out.low).mono ?_
            rintro e w3 ⟨rfl, rfl⟩
            clear hu hv2 hK hG
            obtain ⟨gl, hgl⟩ : ∃ gl, gl = gm l n := ⟨_, rfl⟩
            rw [← hgl] at NX ⊢
            clear hgl
            go_wp2
            exact ⟨⟨v + 1, _, _, _, _, by omega, by go_num, rfl, UU.out, KK.out, GG.out, NX.out⟩, by simp [intOf]; omega⟩
      · have d1 : (z != 18446744073709551615) = true := by rw [bne_iff_ne]; exact hf
        have SK := hid (II.out.skip (by rw [← HZV.out]; exact hf))
        clear hu hK hG hI hf
        go_wp2
        exact ⟨⟨v + 1, out, most, rt, f, by omega, by go_num, rfl, UU.out, KK.out, GG.out, SK.out⟩, by simp [intOf]; omega⟩
    · obtain rfl : n = v := by omega
      have UU := hid hu
      have KK := hid hK
      have II := hid hI
      clear hu hK hG hI
      go_wp2
      refine bodyPost_ret (v := .tuple #[.slice (some ⟨g, 0, none⟩) n n, .int .i64 most]) (by simp [results, Tryz.results37, go_sem]) rfl ?_
      exact ⟨g, out, most, rt, f, rfl, hgw.out, KK.out, UU.out, II.out⟩
end Go.Proofs.YtedljgohmlilgaaGreat
