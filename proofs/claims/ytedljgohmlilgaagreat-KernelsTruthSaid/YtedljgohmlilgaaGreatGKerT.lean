/-
  The walks of truth.Check and truth.Bound, and of kernels.of.
-/
import Derived.Test.YtedljgohmlilgaaGreatSh
import Derived.Laws.EntriesVeiled
namespace Go.Proofs.YtedljgohmlilgaaGreat
open Go.RowKit
set_option linter.unusedVariables false
set_option linter.unusedSimpArgs false

/-- A request, as a value. -/
abbrev rq (k g p d : Nat) : Value := .agg #[.int .i64 k, .int .i64 g, .int .i64 p, .int .i64 d]
/-- A job that may be asked for. -/
def okReq (k g n : Nat) : Prop := (k = 1 ∧ g < n) ∨ (k = 2 ∧ 1 ≤ g ∧ g ≤ 64) ∨ (k = 3 ∧ g = 0) ∨ (k = 4 ∧ g ≤ 4096)

set_option maxRecDepth 100000 in
set_option maxHeartbeats 2000000 in
theorem tCheck_ok (k g p d n : Nat) (w : World) (h : okReq k g n) (hp : p ≤ 7) (n1 : 1 ≤ n) (n2 : n ≤ 256) :
    Calls Tryz.prog 17 #[rq k g p d, .int .i64 n] w fun e w' => e = .returned (.int .i64 0) ∧ Kept [] w w' := by
  have e1 : decide ((1 : Int) ≤ n) = true := by simp; omega
  have e2 : decide ((n : Int) ≤ 256) = true := by simp; omega
  have e3 : decide ((0 : Int) ≤ p) = true := by simp
  have e4 : decide ((p : Int) ≤ 7) = true := by simp; omega
  rcases h with ⟨rfl, hg⟩ | ⟨rfl, hg, hg2⟩ | ⟨rfl, rfl⟩ | ⟨rfl, hg⟩
  · have e5 : decide ((0 : Int) ≤ g) = true := by simp
    have e6 : decide ((g : Int) < n) = true := by simp; omega
    go_enter Tryz.func17, Tryz.ntmps17
    go_wp2
    go_ret
    exact ⟨rfl, (Kept.refl _ _).alloc _⟩
  · have e5 : decide ((1 : Int) ≤ g) = true := by simp; omega
    have e6 : decide ((g : Int) ≤ 64) = true := by simp; omega
    go_enter Tryz.func17, Tryz.ntmps17
    go_wp2
    go_ret
    exact ⟨rfl, (Kept.refl _ _).alloc _⟩
  · go_enter Tryz.func17, Tryz.ntmps17
    go_wp2
    go_ret
    exact ⟨rfl, (Kept.refl _ _).alloc _⟩
  · have e5 : decide ((0 : Int) ≤ g) = true := by simp
    have e6 : decide ((g : Int) ≤ 4096) = true := by simp; omega
    go_enter Tryz.func17, Tryz.ntmps17
    go_wp2
    go_ret
    exact ⟨rfl, (Kept.refl _ _).alloc _⟩

set_option maxRecDepth 100000 in
set_option maxHeartbeats 2000000 in
/-- A search that begins at no vertex. -/
theorem tCheck_no (g p d n : Nat) (w : World) (h : n ≤ g) (hp : p ≤ 7) (n1 : 1 ≤ n) (n2 : n ≤ 256) :
    Calls Tryz.prog 17 #[rq 1 g p d, .int .i64 n] w fun e w' => e = .returned (.int .i64 2) ∧ Kept [] w w' := by
  have e1 : decide ((1 : Int) ≤ n) = true := by simp; omega
  have e2 : decide ((n : Int) ≤ 256) = true := by simp; omega
  have e3 : decide ((0 : Int) ≤ p) = true := by simp
  have e4 : decide ((p : Int) ≤ 7) = true := by simp; omega
  have e5 : decide ((0 : Int) ≤ g) = true := by simp
  have e6 : decide (g < n) = false := by simp; omega
  go_enter Tryz.func17, Tryz.ntmps17
  go_wp2
  go_ret
  exact ⟨rfl, (Kept.refl _ _).alloc _⟩

def bound (k g n : Nat) : Nat := if k = 2 then g else n + 1
set_option maxRecDepth 100000 in
set_option maxHeartbeats 2000000 in
theorem tBound_ok (k g p d n : Nat) (w : World) (h : okReq k g n) (hp : p ≤ 7) (n1 : 1 ≤ n) (n2 : n ≤ 256) :
    Calls Tryz.prog 20 #[.int .i64 n, rq k g p d] w fun e w' => e = .returned (.int .i64 (bound k g n : Nat)) ∧ Kept [] w w' := by
  by_cases hk : k = 2
  · subst hk
    have B := hid (show bound 2 g n = g by simp [bound])
    go_enter Tryz.func20, Tryz.ntmps20
    go_wp2_with fail
    refine (tCheck_ok 2 g p d n _ h hp n1 n2).mono ?_
    rintro e w1 ⟨rfl, hk1⟩
    have c0 := hk1.cell_some (cell_of_obj (new_obj rfl : (w.alloc (.cells #[.int .i64 (2 : Nat), .int .i64 g, .int .i64 p, .int .i64 d] 45)).heap[w.heap.size]? = _) 0) (by simp)
    have c1 := hk1.cell_some (cell_of_obj (new_obj rfl : (w.alloc (.cells #[.int .i64 (2 : Nat), .int .i64 g, .int .i64 p, .int .i64 d] 45)).heap[w.heap.size]? = _) 1) (by simp)
    have HK := hid (((Kept.refl [] w).alloc _).trans hk1)
    clear hk1
    simp at c0 c1
    go_wp2
    go_ret
    exact ⟨by rw [B.out]; rfl, HK.out⟩
  · have B := hid (show bound k g n = n + 1 by simp [bound, hk])
    have e7 : ((k : Int) == 2) = false := by simp; omega
    go_enter Tryz.func20, Tryz.ntmps20
    go_wp2_with fail
    refine (tCheck_ok k g p d n _ h hp n1 n2).mono ?_
    rintro e w1 ⟨rfl, hk1⟩
    have c0 := hk1.cell_some (cell_of_obj (new_obj rfl : (w.alloc (.cells #[.int .i64 k, .int .i64 g, .int .i64 p, .int .i64 d] 45)).heap[w.heap.size]? = _) 0) (by simp)
    have c1 := hk1.cell_some (cell_of_obj (new_obj rfl : (w.alloc (.cells #[.int .i64 k, .int .i64 g, .int .i64 p, .int .i64 d] 45)).heap[w.heap.size]? = _) 1) (by simp)
    have HK := hid (((Kept.refl [] w).alloc _).trans hk1)
    clear hk1
    simp at c0 c1
    go_wp2
    go_ret
    exact ⟨by rw [B.out]; rfl, HK.out⟩

set_option maxRecDepth 100000 in
theorem kof_1 (w : World) : Calls Tryz.prog 30 #[.int .i64 1] w fun e w' => e = .returned (.agg #[.func (Fn.func 43) #[] #[], .func (Fn.func 45) #[] #[], .func (Fn.func 47) #[] #[]]) ∧ Kept [] w w' := by
  go_enter Tryz.func30, Tryz.ntmps30
  go_wp2
  exact bodyPost_ret (v := (.agg #[.func (Fn.func 43) #[] #[], .func (Fn.func 45) #[] #[], .func (Fn.func 47) #[] #[]])) (by simp [results, Tryz.results30, go_sem]) rfl ⟨rfl, (Kept.refl _ _).alloc _⟩
set_option maxRecDepth 100000 in
theorem kof_2 (w : World) : Calls Tryz.prog 30 #[.int .i64 2] w fun e w' => e = .returned (.agg #[.func (Fn.func 49) #[] #[], .func (Fn.func 51) #[] #[], .func (Fn.func 53) #[] #[]]) ∧ Kept [] w w' := by
  go_enter Tryz.func30, Tryz.ntmps30
  go_wp2
  exact bodyPost_ret (v := (.agg #[.func (Fn.func 49) #[] #[], .func (Fn.func 51) #[] #[], .func (Fn.func 53) #[] #[]])) (by simp [results, Tryz.results30, go_sem]) rfl ⟨rfl, (Kept.refl _ _).alloc _⟩
set_option maxRecDepth 100000 in
theorem kof_3 (w : World) : Calls Tryz.prog 30 #[.int .i64 3] w fun e w' => e = .returned (.agg #[.func (Fn.func 55) #[] #[], .func (Fn.func 57) #[] #[], .func (Fn.func 59) #[] #[]]) ∧ Kept [] w w' := by
  go_enter Tryz.func30, Tryz.ntmps30
  go_wp2
  exact bodyPost_ret (v := (.agg #[.func (Fn.func 55) #[] #[], .func (Fn.func 57) #[] #[], .func (Fn.func 59) #[] #[]])) (by simp [results, Tryz.results30, go_sem]) rfl ⟨rfl, (Kept.refl _ _).alloc _⟩
set_option maxRecDepth 100000 in
theorem kof_4 (w : World) : Calls Tryz.prog 30 #[.int .i64 4] w fun e w' => e = .returned (.agg #[.func (Fn.func 61) #[] #[], .func (Fn.func 63) #[] #[], .func (Fn.func 65) #[] #[]]) ∧ Kept [] w w' := by
  go_enter Tryz.func30, Tryz.ntmps30
  go_wp2
  exact bodyPost_ret (v := (.agg #[.func (Fn.func 61) #[] #[], .func (Fn.func 63) #[] #[], .func (Fn.func 65) #[] #[]])) (by simp [results, Tryz.results30, go_sem]) rfl ⟨rfl, (Kept.refl _ _).alloc _⟩
theorem field_1_0 (w : World) : (Instr.field 89 (.agg #[.func (Fn.func 43) #[] #[], .func (Fn.func 45) #[] #[], .func (Fn.func 47) #[] #[]]) 0).run Tryz.prog w = .ok (.func (Fn.func 43) #[] #[]) w := by kernel_rfl
theorem field_1_1 (w : World) : (Instr.field 89 (.agg #[.func (Fn.func 43) #[] #[], .func (Fn.func 45) #[] #[], .func (Fn.func 47) #[] #[]]) 1).run Tryz.prog w = .ok (.func (Fn.func 45) #[] #[]) w := by kernel_rfl
theorem field_1_2 (w : World) : (Instr.field 89 (.agg #[.func (Fn.func 43) #[] #[], .func (Fn.func 45) #[] #[], .func (Fn.func 47) #[] #[]]) 2).run Tryz.prog w = .ok (.func (Fn.func 47) #[] #[]) w := by kernel_rfl
theorem field_2_0 (w : World) : (Instr.field 89 (.agg #[.func (Fn.func 49) #[] #[], .func (Fn.func 51) #[] #[], .func (Fn.func 53) #[] #[]]) 0).run Tryz.prog w = .ok (.func (Fn.func 49) #[] #[]) w := by kernel_rfl
theorem field_2_1 (w : World) : (Instr.field 89 (.agg #[.func (Fn.func 49) #[] #[], .func (Fn.func 51) #[] #[], .func (Fn.func 53) #[] #[]]) 1).run Tryz.prog w = .ok (.func (Fn.func 51) #[] #[]) w := by kernel_rfl
theorem field_2_2 (w : World) : (Instr.field 89 (.agg #[.func (Fn.func 49) #[] #[], .func (Fn.func 51) #[] #[], .func (Fn.func 53) #[] #[]]) 2).run Tryz.prog w = .ok (.func (Fn.func 53) #[] #[]) w := by kernel_rfl
theorem field_3_0 (w : World) : (Instr.field 89 (.agg #[.func (Fn.func 55) #[] #[], .func (Fn.func 57) #[] #[], .func (Fn.func 59) #[] #[]]) 0).run Tryz.prog w = .ok (.func (Fn.func 55) #[] #[]) w := by kernel_rfl
theorem field_3_1 (w : World) : (Instr.field 89 (.agg #[.func (Fn.func 55) #[] #[], .func (Fn.func 57) #[] #[], .func (Fn.func 59) #[] #[]]) 1).run Tryz.prog w = .ok (.func (Fn.func 57) #[] #[]) w := by kernel_rfl
theorem field_3_2 (w : World) : (Instr.field 89 (.agg #[.func (Fn.func 55) #[] #[], .func (Fn.func 57) #[] #[], .func (Fn.func 59) #[] #[]]) 2).run Tryz.prog w = .ok (.func (Fn.func 59) #[] #[]) w := by kernel_rfl
theorem field_4_0 (w : World) : (Instr.field 89 (.agg #[.func (Fn.func 61) #[] #[], .func (Fn.func 63) #[] #[], .func (Fn.func 65) #[] #[]]) 0).run Tryz.prog w = .ok (.func (Fn.func 61) #[] #[]) w := by kernel_rfl
theorem field_4_1 (w : World) : (Instr.field 89 (.agg #[.func (Fn.func 61) #[] #[], .func (Fn.func 63) #[] #[], .func (Fn.func 65) #[] #[]]) 1).run Tryz.prog w = .ok (.func (Fn.func 63) #[] #[]) w := by kernel_rfl
theorem field_4_2 (w : World) : (Instr.field 89 (.agg #[.func (Fn.func 61) #[] #[], .func (Fn.func 63) #[] #[], .func (Fn.func 65) #[] #[]]) 2).run Tryz.prog w = .ok (.func (Fn.func 65) #[] #[]) w := by kernel_rfl
end Go.Proofs.YtedljgohmlilgaaGreat
/-
  The walk of carousellaw16.Ask.Made.
-/
namespace Go.Proofs.YtedljgohmlilgaaGreat
open Go.RowKit
set_option linter.unusedVariables false
set_option linter.unusedSimpArgs false

def askKind (K : Nat) : Nat := 1 + K % 4
def askArg (K A n : Nat) : Nat := if K % 4 = 0 then A % n else if K % 4 = 1 then 1 + A % 12 else if K % 4 = 2 then 0 else A % 9
theorem ask_ok (K A : Nat) {n : Nat} (hn : 1 ≤ n) : okReq (askKind K) (askArg K A n) n := by
  unfold okReq askKind askArg
  have h4 := Nat.mod_lt K (show 0 < 4 by decide)
  have := Nat.mod_lt A (show 0 < n by omega)
  have := Nat.mod_lt A (show 0 < 12 by decide)
  have := Nat.mod_lt A (show 0 < 9 by decide)
  rcases (by omega : K % 4 = 0 ∨ K % 4 = 1 ∨ K % 4 = 2 ∨ K % 4 = 3) with h | h | h | h <;> simp [h] <;> omega

set_option maxRecDepth 100000 in
set_option maxHeartbeats 4000000 in
theorem AskMade_ok (K A P D n : Nat) (w : World) (hn : 1 ≤ n) (hn2 : n ≤ 256) (hK : K < 256) (hA : A < 256) (hP : P < 256) (hD : D < 65536) :
    Calls Tryz.prog 9 #[.agg #[.int .u8 K, .int .u8 A, .int .u8 P, .int .u16 D], .int .i64 n] w fun e w' => e = .returned (rq (askKind K) (askArg K A n) (P % 8) (256 + D % 1000)) ∧ Kept [] w w' := by
  obtain ⟨p, hp⟩ : ∃ p, P % 8 = p := ⟨_, rfl⟩
  obtain ⟨d, hd⟩ : ∃ d, D % 1000 = d := ⟨_, rfl⟩
  have e1 : (P : Int) % 8 = p := by omega
  have e2 : (D : Int) % 1000 = d := by omega
  have p8 : p < 8 := by omega
  have d1000 : d < 1000 := by omega
  rw [hp, hd]
  rcases (by omega : K % 4 = 0 ∨ K % 4 = 1 ∨ K % 4 = 2 ∨ K % 4 = 3) with h | h | h | h
  · obtain ⟨g, hg⟩ : ∃ g, A % n = g := ⟨_, rfl⟩
    have gl : g < n := by rw [← hg]; exact Nat.mod_lt _ (by omega)
    have e3 : (A : Int) % n = g := by rw [← hg, Int.natCast_emod]
    have AK := hid (show askKind K = 1 by simp [askKind, h])
    have AG := hid (show askArg K A n = g by simp [askArg, h, hg])
    have e0 : (K : Int) % 4 = 0 := by omega
    rw [AK.out, AG.out]
    clear hp hd h hg
    go_enter Tryz.func9, Tryz.ntmps9
    go_wp2
    exact bodyPost_ret (v := rq 1 (g) p (256 + d)) (by simp [results, Tryz.results9, go_sem]) rfl ⟨rfl, ((((Kept.refl _ _).alloc _).alloc _).alloc _)⟩
  · obtain ⟨g, hg⟩ : ∃ g, A % 12 = g := ⟨_, rfl⟩
    have gl : g < 12 := by rw [← hg]; exact Nat.mod_lt _ (by omega)
    have e3 : (A : Int) % 12 = g := by omega
    have AK := hid (show askKind K = 2 by simp [askKind, h])
    have AG := hid (show askArg K A n = 1 + g by simp [askArg, h, hg])
    have e0 : (K : Int) % 4 = 1 := by omega
    rw [AK.out, AG.out]
    clear hp hd h hg
    go_enter Tryz.func9, Tryz.ntmps9
    go_wp2
    exact bodyPost_ret (v := rq 2 (1 + g) p (256 + d)) (by simp [results, Tryz.results9, go_sem]) rfl ⟨rfl, ((((Kept.refl _ _).alloc _).alloc _).alloc _)⟩
  · have AK := hid (show askKind K = 3 by simp [askKind, h])
    have AG := hid (show askArg K A n = 0 by simp [askArg, h])
    have e0 : (K : Int) % 4 = 2 := by omega
    rw [AK.out, AG.out]
    clear hp hd h
    go_enter Tryz.func9, Tryz.ntmps9
    go_wp2
    exact bodyPost_ret (v := rq 3 (0) p (256 + d)) (by simp [results, Tryz.results9, go_sem]) rfl ⟨rfl, ((((Kept.refl _ _).alloc _).alloc _).alloc _)⟩
  · obtain ⟨g, hg⟩ : ∃ g, A % 9 = g := ⟨_, rfl⟩
    have gl : g < 9 := by rw [← hg]; exact Nat.mod_lt _ (by omega)
    have e3 : (A : Int) % 9 = g := by omega
    have AK := hid (show askKind K = 4 by simp [askKind, h])
    have AG := hid (show askArg K A n = g by simp [askArg, h, hg])
    have e0 : (K : Int) % 4 = 3 := by omega
    rw [AK.out, AG.out]
    clear hp hd h hg
    go_enter Tryz.func9, Tryz.ntmps9
    go_wp2
    exact bodyPost_ret (v := rq 4 (g) p (256 + d)) (by simp [results, Tryz.results9, go_sem]) rfl ⟨rfl, ((((Kept.refl _ _).alloc _).alloc _).alloc _)⟩
end Go.Proofs.YtedljgohmlilgaaGreat
