/- What is not seen through hides all under it. -/
import Derived.Test.YtnladfpckejogaaN
import Derived.Test.YtnladfpckejogaaS
import Derived.Deep.Cut

namespace Go.Proofs.Ytnladfpckejogaa
open Go.RowKit Go.Shelf
attribute [local go_sem] Oper.semAt_some
attribute [local go_sem 2000] run_col
attribute [local go_sem] colB_self

theorem share_full (x y : Int) : shareZ x y 255 = y := by unfold shareZ; omega
theorem share_none (x y : Int) : shareZ x y 0 = x := by unfold shareZ; omega
theorem cover_full (x : Int) : (255 + shareZ x 0 255) % 256 = 255 := by rw [share_full]; rfl
theorem cover_none {x : Int} (h : By x) : (0 + shareZ x 0 0) % 256 = x := by rw [share_none]; unfold By at h; omega
theorem share_same (x p : Int) : shareZ x x p = x := by
  unfold shareZ
  rw [Int.mul_sub]
  omega
theorem share_between {x y p : Int} (_ : By x) (_ : By y) (hp : By p) : min x y ≤ shareZ x y p ∧ shareZ x y p ≤ max x y := by
  obtain ⟨p0, p1⟩ := hp
  have e : x * (255 - p) + y * p = x * 255 + (y - x) * p := by rw [Int.mul_sub, Int.sub_mul]; omega
  unfold shareZ
  rw [e]
  rcases Int.le_total x y with h | h
  · have a1 := Int.mul_nonneg (show 0 ≤ y - x by omega) p0
    have a2 := Int.mul_le_mul_of_nonneg_left p1 (show 0 ≤ y - x by omega)
    rw [Int.min_eq_left h, Int.max_eq_right h]
    omega
  · have a1 := Int.mul_nonneg (show 0 ≤ x - y by omega) p0
    have a2 := Int.mul_le_mul_of_nonneg_left p1 (show 0 ≤ x - y by omega)
    have a3 : (y - x) * p = -((x - y) * p) := by rw [← Int.neg_mul]; congr 1; omega
    rw [Int.min_eq_right h, Int.max_eq_left h, a3]
    omega
theorem cover_up {x p : Int} (hx : By x) (hp : By p) : p ≤ (p + shareZ x 0 p) % 256 ∧ x ≤ (p + shareZ x 0 p) % 256 := by
  obtain ⟨x0, x1⟩ := hx
  obtain ⟨p0, p1⟩ := hp
  have m0 := Int.mul_nonneg x0 (show 0 ≤ 255 - p by omega)
  have m1 := Int.mul_le_mul_of_nonneg_right x1 (show 0 ≤ 255 - p by omega)
  have m2 := Int.mul_nonneg (show 0 ≤ 255 - x by omega) p0
  have e : x * (255 - p) = x * 255 - x * p := by rw [Int.mul_sub]
  have e2 : (255 - x) * p = 255 * p - x * p := by rw [Int.sub_mul]
  unfold shareZ
  omega
theorem over_whole (u o : Col) (r g b : Int) : [o, ((r, g, b, 255) : Col)].foldl overC u = (r, g, b, 255) := by
  show overC (overC u o) (r, g, b, 255) = _
  generalize overC u o = v
  unfold overC
  simp only [share_full]
  rfl
theorem colRow_none {W : World} : ColRow W none [] := ⟨by simp [maxLen], fun i c hi => by simp at hi, fun c hc => by simp at hc⟩

set_option maxRecDepth 100000 in
set_option maxHeartbeats 4000000 in
theorem hides_any (r0 g0 b0 a0 r1 g1 b1 a1 p : Int) (w : World) (m0 : ByC (r0, g0, b0, a0)) (m1 : ByC (r1, g1, b1, a1)) (mp : By p) :
    Calls Try.prog 6 #[.agg #[.int .u8 r0, .int .u8 g0, .int .u8 b0, .int .u8 a0], .agg #[.int .u8 r1, .int .u8 g1, .int .u8 b1, .int .u8 a1], .int .u8 p] w fun e w' => e = .returned (.bool true) ∧ Below w.heap.size w w' := by
  go_enter Try.func6, Try.ntmps6
  go_wp2_with (fail)
  generalize hX : World.alloc _ _ = X
  have x0 : Has X w.heap.size (.cells #[.int .u8 r0, .int .u8 g0, .int .u8 b0, .int .u8 a0] 27 (0, 0)) := by rw [← hX]; exact (Has.new' (by simp)).alloc _
  have x1 : Has X (w.heap.size + 1) (.cells #[.int .u8 r1, .int .u8 g1, .int .u8 b1, .int .u8 a1] 27 (0, 0)) := by rw [← hX]; exact Has.new' (by simp)
  have bX : Below w.heap.size w X := by rw [← hX]; exact ((Below.refl _ _).alloc (by simp) _).alloc (by simp) _
  clear hX
  refine (wakes_any _).mono ?_
  rintro e w1 ⟨rfl, bw1⟩
  have y0 := x0.below bw1 x0.lt
  have y1 := x1.below bw1 x1.lt
  have B1 := bX.trans (bw1.mono bX.size)
  clear x0 x1 bX bw1
  go_wp2_with (fail)
  go_cut [7, 8] from 12 (fun s7 s8 wc => ∃ z2 z3 : Nat, s7 = .pointer (some ⟨z2, 0, none⟩) ∧ s8 = .pointer (some ⟨z3, 0, none⟩) ∧ z2 ≠ z3 ∧ w1.heap.size ≤ z2 ∧ w1.heap.size ≤ z3 ∧ Has wc z2 (.cells #[.int .u8 r1, .int .u8 g1, .int .u8 b1, .int .u8 a1] 27 (0, 0)) ∧ Has wc z3 (.cells #[.int .u8 r1, .int .u8 g1, .int .u8 b1, .int .u8 a1] 27 (0, 0)) ∧
    Has wc w.heap.size (.cells #[.int .u8 r0, .int .u8 g0, .int .u8 b0, .int .u8 a0] 27 (0, 0)) ∧ Has wc (w.heap.size + 1) (.cells #[.int .u8 r1, .int .u8 g1, .int .u8 b1, .int .u8 a1] 27 (0, 0)) ∧ Below w.heap.size w wc)
  case first =>
    refine wp_region_tree (.pure 0 (.pure 1 (.two 2 (.act 3 (.act 4 (.act 5 .done))) 3 (.act 2 (.act 4 (.act 5 .done)))))) (fun Y => Has Y (w.heap.size + 1) (.cells #[.int .u8 r1, .int .u8 g1, .int .u8 b1, .int .u8 a1] 27 (0, 0))) (by kernel_rfl) (by kernel_rfl) (by kernel_rfl) y1.drew ?_
    refine tree_pure (v := .agg #[.int .u8 r1, .int .u8 g1, .int .u8 b1, .int .u8 a1]) rfl rfl (fun Y hY => by have hY := hY.four; go_simp) ?_
    go_simp
    refine tree_pure (v := .agg #[.int .u8 r1, .int .u8 g1, .int .u8 b1, .int .u8 a1]) rfl rfl (fun Y hY => by have hY := hY.four; go_simp) ?_
    go_simp
    refine tree_two rfl rfl rfl rfl ?_ ?_
    · go_simp
      refine ⟨(y1.alloc (.cells #[.int .u8 0, .int .u8 0, .int .u8 0, .int .u8 0] 27 (0, 0))).drew, ?_⟩
      refine tree_act rfl rfl ?_
      go_simp
      refine ⟨((y1.alloc (.cells #[.int .u8 0, .int .u8 0, .int .u8 0, .int .u8 0] 27 (0, 0))).alloc (.cells #[.int .u8 0, .int .u8 0, .int .u8 0, .int .u8 0] 27 (0, 0))).drew, ?_⟩
      refine tree_act rfl rfl ?_
      go_simp
      refine ⟨((y1.alloc (.cells #[.int .u8 r1, .int .u8 g1, .int .u8 b1, .int .u8 a1] 27 (0, 0))).alloc (.cells #[.int .u8 0, .int .u8 0, .int .u8 0, .int .u8 0] 27 (0, 0))).drew, ?_⟩
      refine tree_act rfl rfl ?_
      go_simp
      refine ⟨((y1.alloc (.cells #[.int .u8 r1, .int .u8 g1, .int .u8 b1, .int .u8 a1] 27 (0, 0))).alloc (.cells #[.int .u8 r1, .int .u8 g1, .int .u8 b1, .int .u8 a1] 27 (0, 0))).drew, ?_⟩
      refine tree_end ?_
      have s0 := ((y0.alloc (.cells #[.int .u8 r1, .int .u8 g1, .int .u8 b1, .int .u8 a1] 27 (0, 0))).alloc (.cells #[.int .u8 r1, .int .u8 g1, .int .u8 b1, .int .u8 a1] 27 (0, 0))).drew
      have s1 := ((y1.alloc (.cells #[.int .u8 r1, .int .u8 g1, .int .u8 b1, .int .u8 a1] 27 (0, 0))).alloc (.cells #[.int .u8 r1, .int .u8 g1, .int .u8 b1, .int .u8 a1] 27 (0, 0))).drew
      have s2 : Has (World.drew (World.alloc (World.alloc w1 (.cells #[.int .u8 r1, .int .u8 g1, .int .u8 b1, .int .u8 a1] 27 (0, 0))) (.cells #[.int .u8 r1, .int .u8 g1, .int .u8 b1, .int .u8 a1] 27 (0, 0)))) w1.heap.size (.cells #[.int .u8 r1, .int .u8 g1, .int .u8 b1, .int .u8 a1] 27 (0, 0)) := ((Has.new w1 (.cells #[.int .u8 r1, .int .u8 g1, .int .u8 b1, .int .u8 a1] 27 (0, 0))).alloc (.cells #[.int .u8 r1, .int .u8 g1, .int .u8 b1, .int .u8 a1] 27 (0, 0))).drew
      have s3 : Has (World.drew (World.alloc (World.alloc w1 (.cells #[.int .u8 r1, .int .u8 g1, .int .u8 b1, .int .u8 a1] 27 (0, 0))) (.cells #[.int .u8 r1, .int .u8 g1, .int .u8 b1, .int .u8 a1] 27 (0, 0)))) (w1.heap.size + 1) (.cells #[.int .u8 r1, .int .u8 g1, .int .u8 b1, .int .u8 a1] 27 (0, 0)) := (Has.new' (by simp)).drew
      have sb := ((B1.alloc B1.size (.cells #[.int .u8 r1, .int .u8 g1, .int .u8 b1, .int .u8 a1] 27 (0, 0))).alloc (by simp; have := B1.size; omega) (.cells #[.int .u8 r1, .int .u8 g1, .int .u8 b1, .int .u8 a1] 27 (0, 0))).drew
      generalize hV : World.drew _ = V at *
      clear hV
      go_wp2_with (fail)
      go_meet
      case rel => exact ⟨w1.heap.size, w1.heap.size + 1, rfl, rfl, by omega, by omega, by omega, s2, s3, s0, s1, sb⟩
    · go_simp
      refine ⟨(y1.alloc (.cells #[.int .u8 0, .int .u8 0, .int .u8 0, .int .u8 0] 27 (0, 0))).drew, ?_⟩
      refine tree_act rfl rfl ?_
      go_simp
      refine ⟨((y1.alloc (.cells #[.int .u8 0, .int .u8 0, .int .u8 0, .int .u8 0] 27 (0, 0))).alloc (.cells #[.int .u8 0, .int .u8 0, .int .u8 0, .int .u8 0] 27 (0, 0))).drew, ?_⟩
      refine tree_act rfl rfl ?_
      go_simp
      refine ⟨((y1.alloc (.cells #[.int .u8 0, .int .u8 0, .int .u8 0, .int .u8 0] 27 (0, 0))).alloc (.cells #[.int .u8 r1, .int .u8 g1, .int .u8 b1, .int .u8 a1] 27 (0, 0))).drew, ?_⟩
      refine tree_act rfl rfl ?_
      go_simp
      refine ⟨((y1.alloc (.cells #[.int .u8 r1, .int .u8 g1, .int .u8 b1, .int .u8 a1] 27 (0, 0))).alloc (.cells #[.int .u8 r1, .int .u8 g1, .int .u8 b1, .int .u8 a1] 27 (0, 0))).drew, ?_⟩
      refine tree_end ?_
      have s0 := ((y0.alloc (.cells #[.int .u8 r1, .int .u8 g1, .int .u8 b1, .int .u8 a1] 27 (0, 0))).alloc (.cells #[.int .u8 r1, .int .u8 g1, .int .u8 b1, .int .u8 a1] 27 (0, 0))).drew
      have s1 := ((y1.alloc (.cells #[.int .u8 r1, .int .u8 g1, .int .u8 b1, .int .u8 a1] 27 (0, 0))).alloc (.cells #[.int .u8 r1, .int .u8 g1, .int .u8 b1, .int .u8 a1] 27 (0, 0))).drew
      have s2 : Has (World.drew (World.alloc (World.alloc w1 (.cells #[.int .u8 r1, .int .u8 g1, .int .u8 b1, .int .u8 a1] 27 (0, 0))) (.cells #[.int .u8 r1, .int .u8 g1, .int .u8 b1, .int .u8 a1] 27 (0, 0)))) w1.heap.size (.cells #[.int .u8 r1, .int .u8 g1, .int .u8 b1, .int .u8 a1] 27 (0, 0)) := ((Has.new w1 (.cells #[.int .u8 r1, .int .u8 g1, .int .u8 b1, .int .u8 a1] 27 (0, 0))).alloc (.cells #[.int .u8 r1, .int .u8 g1, .int .u8 b1, .int .u8 a1] 27 (0, 0))).drew
      have s3 : Has (World.drew (World.alloc (World.alloc w1 (.cells #[.int .u8 r1, .int .u8 g1, .int .u8 b1, .int .u8 a1] 27 (0, 0))) (.cells #[.int .u8 r1, .int .u8 g1, .int .u8 b1, .int .u8 a1] 27 (0, 0)))) (w1.heap.size + 1) (.cells #[.int .u8 r1, .int .u8 g1, .int .u8 b1, .int .u8 a1] 27 (0, 0)) := (Has.new' (by simp)).drew
      have sb := ((B1.alloc B1.size (.cells #[.int .u8 r1, .int .u8 g1, .int .u8 b1, .int .u8 a1] 27 (0, 0))).alloc (by simp; have := B1.size; omega) (.cells #[.int .u8 r1, .int .u8 g1, .int .u8 b1, .int .u8 a1] 27 (0, 0))).drew
      generalize hV : World.drew _ = V at *
      clear hV
      go_wp2_with (fail)
      go_meet
      case rel => exact ⟨w1.heap.size + 1, w1.heap.size, rfl, rfl, by omega, by omega, by omega, s3, s2, s0, s1, sb⟩
  case rest =>
  obtain ⟨z2, z3, rfl, rfl, qn, q2, q3, i2, i3, i0, i1, bi⟩ := hcut
  have s1 := y1.lt
  have sB := B1.size
  clear y0 y1 B1
  have d2 : wc.cell? ⟨z2, 3, none⟩ = some (.int .u8 a1) := i2.cell 3
  have e2 := i2.free 3
  have n2 := i2.set 3 (.int .u8 255)
  have n3 := i3.other (a := ⟨z2, 3, none⟩) (.int .u8 255) (Ne.symm qn)
  have n0 := i0.other (a := ⟨z2, 3, none⟩) (.int .u8 255) (by simp; omega)
  have n1 := i1.other (a := ⟨z2, 3, none⟩) (.int .u8 255) (by simp; omega)
  have bn := bi.setCell (p := ⟨z2, 3, none⟩) (by simp; omega) (.int .u8 255)
  have d3 : (wc.setCell ⟨z2, 3, none⟩ (.int .u8 255)).cell? ⟨z3, 3, none⟩ = some (.int .u8 a1) := n3.cell 3
  have e3 := n3.free 3
  have y3 := n3.set 3 (.int .u8 0)
  have y2 := n2.other (a := ⟨z3, 3, none⟩) (.int .u8 0) qn
  have y0 := n0.other (a := ⟨z3, 3, none⟩) (.int .u8 0) (by simp; omega)
  have y1 := n1.other (a := ⟨z3, 3, none⟩) (.int .u8 0) (by simp; omega)
  have bY := bn.setCell (p := ⟨z3, 3, none⟩) (by simp; omega) (.int .u8 0)
  have HQ := Lib.hid (And.intro q2 (And.intro q3 (And.intro qn (And.intro s1 sB))))
  clear q2 q3 qn s1 sB i0 i1 i2 i3 bi n2 n3 n0 n1 bn
  go_wp2_with (fail)
  clear d2 e2 d3 e3
  generalize hU : World.setCell _ _ _ = U at *
  clear hU
  have L0 : ∀ {w'}, Below U.drew.heap.size U.drew w' → w'.cell? ⟨w.heap.size, 0, none⟩ = some (.int .u8 r0) ∧ w'.cell? ⟨w.heap.size, 1, none⟩ = some (.int .u8 g0) ∧ w'.cell? ⟨w.heap.size, 2, none⟩ = some (.int .u8 b0) ∧ w'.cell? ⟨w.heap.size, 3, none⟩ = some (.int .u8 a0) := fun hB => (y0.drew.below hB y0.drew.lt).four
  have L1 : ∀ {w'}, Below U.drew.heap.size U.drew w' → w'.cell? ⟨w.heap.size + 1, 0, none⟩ = some (.int .u8 r1) ∧ w'.cell? ⟨w.heap.size + 1, 1, none⟩ = some (.int .u8 g1) ∧ w'.cell? ⟨w.heap.size + 1, 2, none⟩ = some (.int .u8 b1) ∧ w'.cell? ⟨w.heap.size + 1, 3, none⟩ = some (.int .u8 a1) := fun hB => (y1.drew.below hB y1.drew.lt).four
  have L2 : ∀ {w'}, Below U.drew.heap.size U.drew w' → w'.cell? ⟨z2, 0, none⟩ = some (.int .u8 r1) ∧ w'.cell? ⟨z2, 1, none⟩ = some (.int .u8 g1) ∧ w'.cell? ⟨z2, 2, none⟩ = some (.int .u8 b1) ∧ w'.cell? ⟨z2, 3, none⟩ = some (.int .u8 255) := fun hB => (y2.drew.below hB y2.drew.lt).four
  have L3 : ∀ {w'}, Below U.drew.heap.size U.drew w' → w'.cell? ⟨z3, 0, none⟩ = some (.int .u8 r1) ∧ w'.cell? ⟨z3, 1, none⟩ = some (.int .u8 g1) ∧ w'.cell? ⟨z3, 2, none⟩ = some (.int .u8 b1) ∧ w'.cell? ⟨z3, 3, none⟩ = some (.int .u8 0) := fun hB => (y3.drew.below hB y3.drew.lt).four
  refine wp_region_fresh 33 [(33, false)]
    [(fun _ => .agg #[.int .u8 r0, .int .u8 g0, .int .u8 b0, .int .u8 a0], none),
     (fun _ => .agg #[.int .u8 r1, .int .u8 g1, .int .u8 b1, .int .u8 255], none),
     (fun _ => .agg #[.int .u8 r1, .int .u8 g1, .int .u8 b1, .int .u8 255], none),
     (fun _ => .agg #[.int .u8 r1, .int .u8 g1, .int .u8 b1, .int .u8 255], none),
     (fun _ => .bool false, none),
     (fun _ => .bool false, none),
     (fun _ => .agg #[.int .u8 r0, .int .u8 g0, .int .u8 b0, .int .u8 a0], none),
     (fun _ => .agg #[.int .u8 r1, .int .u8 g1, .int .u8 b1, .int .u8 0], none),
     (fun _ => .agg #[.int .u8 r0, .int .u8 g0, .int .u8 b0, .int .u8 a0], none),
     (fun _ => .agg #[.int .u8 r0, .int .u8 g0, .int .u8 b0, .int .u8 a0], none),
     (fun _ => .bool false, none),
     (fun _ => .bool false, none),
     (fun _ => .bool false, none),
     (fun _ => .agg #[.int .u8 r0, .int .u8 g0, .int .u8 b0, .int .u8 a0], none),
     (fun _ => .agg #[.int .u8 r1, .int .u8 g1, .int .u8 b1, .int .u8 a1], none),
     (fun _ => .agg #[.int .u8 r0, .int .u8 g0, .int .u8 b0, .int .u8 a0], none),
     (fun _ => .agg #[.int .u8 r0, .int .u8 g0, .int .u8 b0, .int .u8 a0], none),
     (fun _ => .bool false, none),
     (fun _ => .bool false, none),
     (fun _ => .bool false, none),
     (fun _ => .agg #[.int .u8 r0, .int .u8 g0, .int .u8 b0, .int .u8 a0], none),
     (fun _ => .agg #[.int .u8 r1, .int .u8 g1, .int .u8 b1, .int .u8 a1], none),
     (fun _ => .agg #[.int .u8 r1, .int .u8 g1, .int .u8 b1, .int .u8 a1], none),
     (fun _ => .agg #[.int .u8 r1, .int .u8 g1, .int .u8 b1, .int .u8 a1], none),
     (fun _ => .bool false, none),
     (fun _ => .bool false, none),
     (fun _ => .bool false, none),
     (fun _ => .agg #[.int .u8 r0, .int .u8 g0, .int .u8 b0, .int .u8 a0], none),
     (fun _ => .agg #[.int .u8 r0, .int .u8 g0, .int .u8 b0, .int .u8 a0], none),
     (fun _ => .int .u8 p, none),
     (fun _ => .agg #[.int .u8 r0, .int .u8 g0, .int .u8 b0, .int .u8 a0], none),
     (fun _ => .agg #[.int .u8 r0, .int .u8 g0, .int .u8 b0, .int .u8 a0], none),
     (fun _ => .bool false, none)] (fun _ _ => True) (by kernel_rfl) (by kernel_rfl) rfl ?_
  intro z'
  refine fresh_pure rfl rfl (fun w' hB => by have l0 := L0 hB; have l1 := L1 hB; have l2 := L2 hB; have l3 := L3 hB; go_simp) ?_
  go_simp
  refine fresh_pure rfl rfl (fun w' hB => by have l0 := L0 hB; have l1 := L1 hB; have l2 := L2 hB; have l3 := L3 hB; go_simp) ?_
  go_simp
  refine fresh_call rfl rfl (fun w' hB hA => by go_simp) (fun w' hB hA => (over_any r0 g0 b0 a0 r1 g1 b1 255 w' m0.1 m0.2.1 m0.2.2.1 m0.2.2.2 m1.1 m1.2.1 m1.2.2.1 (by decide)).mono fun e w'' ⟨h, h'⟩ => ⟨by rw [h, share_full, share_full, share_full, cover_full], h'⟩) ?_
  go_simp
  refine fresh_pure rfl rfl (fun w' hB => by have l0 := L0 hB; have l1 := L1 hB; have l2 := L2 hB; have l3 := L3 hB; go_simp) ?_
  go_simp
  refine fresh_pure rfl rfl (fun w' hB => by go_simp) ?_
  go_simp
  refine fresh_pure rfl rfl (fun w' hB => by go_simp) ?_
  go_simp
  refine fresh_pure rfl rfl (fun w' hB => by have l0 := L0 hB; have l1 := L1 hB; have l2 := L2 hB; have l3 := L3 hB; go_simp) ?_
  go_simp
  refine fresh_pure rfl rfl (fun w' hB => by have l0 := L0 hB; have l1 := L1 hB; have l2 := L2 hB; have l3 := L3 hB; go_simp) ?_
  go_simp
  refine fresh_call rfl rfl (fun w' hB hA => by go_simp) (fun w' hB hA => (over_any r0 g0 b0 a0 r1 g1 b1 0 w' m0.1 m0.2.1 m0.2.2.1 m0.2.2.2 m1.1 m1.2.1 m1.2.2.1 (by decide)).mono fun e w'' ⟨h, h'⟩ => ⟨by rw [h, share_none, share_none, share_none, cover_none m0.2.2.2], h'⟩) ?_
  go_simp
  refine fresh_pure rfl rfl (fun w' hB => by have l0 := L0 hB; have l1 := L1 hB; have l2 := L2 hB; have l3 := L3 hB; go_simp) ?_
  go_simp
  refine fresh_pure rfl rfl (fun w' hB => by go_simp) ?_
  go_simp
  refine fresh_pure rfl rfl (fun w' hB => by go_simp) ?_
  go_simp
  refine fresh_pure rfl rfl (fun w' hB => by go_simp) ?_
  go_simp
  refine fresh_pure rfl rfl (fun w' hB => by have l0 := L0 hB; have l1 := L1 hB; have l2 := L2 hB; have l3 := L3 hB; go_simp) ?_
  go_simp
  refine fresh_pure rfl rfl (fun w' hB => by have l0 := L0 hB; have l1 := L1 hB; have l2 := L2 hB; have l3 := L3 hB; go_simp) ?_
  go_simp
  refine fresh_call rfl rfl (fun w' hB hA => by go_simp) (fun w' hB hA => (mix_any r0 g0 b0 a0 r1 g1 b1 a1 0 w' m0.1 m0.2.1 m0.2.2.1 m0.2.2.2 m1.1 m1.2.1 m1.2.2.1 m1.2.2.2 (by decide)).mono fun e w'' ⟨h, h'⟩ => ⟨by rw [h, share_none, share_none, share_none, share_none], h'⟩) ?_
  go_simp
  refine fresh_pure rfl rfl (fun w' hB => by have l0 := L0 hB; have l1 := L1 hB; have l2 := L2 hB; have l3 := L3 hB; go_simp) ?_
  go_simp
  refine fresh_pure rfl rfl (fun w' hB => by go_simp) ?_
  go_simp
  refine fresh_pure rfl rfl (fun w' hB => by go_simp) ?_
  go_simp
  refine fresh_pure rfl rfl (fun w' hB => by go_simp) ?_
  go_simp
  refine fresh_pure rfl rfl (fun w' hB => by have l0 := L0 hB; have l1 := L1 hB; have l2 := L2 hB; have l3 := L3 hB; go_simp) ?_
  go_simp
  refine fresh_pure rfl rfl (fun w' hB => by have l0 := L0 hB; have l1 := L1 hB; have l2 := L2 hB; have l3 := L3 hB; go_simp) ?_
  go_simp
  refine fresh_call rfl rfl (fun w' hB hA => by go_simp) (fun w' hB hA => (mix_any r0 g0 b0 a0 r1 g1 b1 a1 255 w' m0.1 m0.2.1 m0.2.2.1 m0.2.2.2 m1.1 m1.2.1 m1.2.2.1 m1.2.2.2 (by decide)).mono fun e w'' ⟨h, h'⟩ => ⟨by rw [h, share_full, share_full, share_full, share_full], h'⟩) ?_
  go_simp
  refine fresh_pure rfl rfl (fun w' hB => by have l0 := L0 hB; have l1 := L1 hB; have l2 := L2 hB; have l3 := L3 hB; go_simp) ?_
  go_simp
  refine fresh_pure rfl rfl (fun w' hB => by go_simp) ?_
  go_simp
  refine fresh_pure rfl rfl (fun w' hB => by go_simp) ?_
  go_simp
  refine fresh_pure rfl rfl (fun w' hB => by go_simp) ?_
  go_simp
  refine fresh_pure rfl rfl (fun w' hB => by have l0 := L0 hB; have l1 := L1 hB; have l2 := L2 hB; have l3 := L3 hB; go_simp) ?_
  go_simp
  refine fresh_pure rfl rfl (fun w' hB => by have l0 := L0 hB; have l1 := L1 hB; have l2 := L2 hB; have l3 := L3 hB; go_simp) ?_
  go_simp
  refine fresh_pure rfl rfl (fun w' hB => by go_simp) ?_
  go_simp
  refine fresh_call rfl rfl (fun w' hB hA => by go_simp) (fun w' hB hA => (mix_any r0 g0 b0 a0 r0 g0 b0 a0 p w' m0.1 m0.2.1 m0.2.2.1 m0.2.2.2 m0.1 m0.2.1 m0.2.2.1 m0.2.2.2 mp).mono fun e w'' ⟨h, h'⟩ => ⟨by rw [h, share_same, share_same, share_same, share_same], h'⟩) ?_
  go_simp
  refine fresh_pure rfl rfl (fun w' hB => by have l0 := L0 hB; have l1 := L1 hB; have l2 := L2 hB; have l3 := L3 hB; go_simp) ?_
  go_simp
  refine fresh_pure rfl rfl (fun w' hB => by go_simp) ?_
  go_simp
  refine fresh_end fun V hB hA hD => ?_
  have x0 := y0.drew.below hB y0.drew.lt
  have x1 := y1.drew.below hB y1.drew.lt
  have x2 := y2.drew.below hB y2.drew.lt
  have B2 := bY.drew.trans (hB.mono bY.drew.size)
  clear L0 L1 L2 L3 y0 y1 y2 y3 bY hB hA hD
  go_simp
  repeat (refine sched_pure (v := ?_) rfl rfl ?_ ?_; rotate_left; (focus (intro Y hY; go_simp; try with_reducible rfl)); go_simp; try go_bits)
  refine sched_end ?_
  have d0 := x0.four
  have d1 := x1.four
  go_wp2_with (fail)
  refine (mix_any r0 g0 b0 a0 r1 g1 b1 a1 p _ m0.1 m0.2.1 m0.2.2.1 m0.2.2.2 m1.1 m1.2.1 m1.2.2.1 m1.2.2.2 mp).mono ?_
  rintro e w5 ⟨rfl, b5⟩
  have u0 := x0.below b5 x0.lt
  have u1 := x1.below b5 x1.lt
  have u2 := x2.below b5 x2.lt
  have B5 := B2.trans (b5.mono B2.size)
  have v0 := u0.alloc (.cells #[.int .u8 (shareZ r0 r1 p), .int .u8 (shareZ g0 g1 p), .int .u8 (shareZ b0 b1 p), .int .u8 (shareZ a0 a1 p)] 27 (0, 0))
  have v1 := u1.alloc (.cells #[.int .u8 (shareZ r0 r1 p), .int .u8 (shareZ g0 g1 p), .int .u8 (shareZ b0 b1 p), .int .u8 (shareZ a0 a1 p)] 27 (0, 0))
  have v2 := u2.alloc (.cells #[.int .u8 (shareZ r0 r1 p), .int .u8 (shareZ g0 g1 p), .int .u8 (shareZ b0 b1 p), .int .u8 (shareZ a0 a1 p)] 27 (0, 0))
  have v9 : Has (w5.alloc (.cells #[.int .u8 (shareZ r0 r1 p), .int .u8 (shareZ g0 g1 p), .int .u8 (shareZ b0 b1 p), .int .u8 (shareZ a0 a1 p)] 27 (0, 0))) w5.heap.size (.cells #[.int .u8 (shareZ r0 r1 p), .int .u8 (shareZ g0 g1 p), .int .u8 (shareZ b0 b1 p), .int .u8 (shareZ a0 a1 p)] 27 (0, 0)) := Has.new w5 _
  have B6 := B5.alloc B5.size (.cells #[.int .u8 (shareZ r0 r1 p), .int .u8 (shareZ g0 g1 p), .int .u8 (shareZ b0 b1 p), .int .u8 (shareZ a0 a1 p)] 27 (0, 0))
  clear x0 x1 x2 B2 b5 u0 u1 u2 B5 d0 d1
  have d0 := v0.four
  have d1 := v1.four
  have d9 := v9.four
  go_wp2_with (fail)
  refine (between_any r0 r1 (shareZ r0 r1 p) _).mono ?_
  rintro e w' ⟨he, rfl⟩
  rw [decide_eq_true (share_between m0.1 m1.1 mp)] at he
  subst he
  go_wp2_with (fail)
  refine (between_any g0 g1 (shareZ g0 g1 p) _).mono ?_
  rintro e w' ⟨he, rfl⟩
  rw [decide_eq_true (share_between m0.2.1 m1.2.1 mp)] at he
  subst he
  go_wp2_with (fail)
  refine (between_any b0 b1 (shareZ b0 b1 p) _).mono ?_
  rintro e w' ⟨he, rfl⟩
  rw [decide_eq_true (share_between m0.2.2.1 m1.2.2.1 mp)] at he
  subst he
  go_wp2_with (fail)
  refine (between_any a0 a1 (shareZ a0 a1 p) _).mono ?_
  rintro e w' ⟨he, rfl⟩
  rw [decide_eq_true (share_between m0.2.2.2 m1.2.2.2 mp)] at he
  subst he
  go_wp2_with (fail)
  refine (over_any r0 g0 b0 a0 r1 g1 b1 a1 _ m0.1 m0.2.1 m0.2.2.1 m0.2.2.2 m1.1 m1.2.1 m1.2.2.1 m1.2.2.2).mono ?_
  rintro e w8 ⟨rfl, b8⟩
  have u0 := v0.below b8 v0.lt
  have u1 := v1.below b8 v1.lt
  have u2 := v2.below b8 v2.lt
  have B8 := B6.trans (b8.mono B6.size)
  have y0 := u0.alloc (.cells #[.int .u8 (shareZ r0 r1 a1), .int .u8 (shareZ g0 g1 a1), .int .u8 (shareZ b0 b1 a1), .int .u8 ((a1 + shareZ a0 0 a1) % 256)] 27 (0, 0))
  have y1 := u1.alloc (.cells #[.int .u8 (shareZ r0 r1 a1), .int .u8 (shareZ g0 g1 a1), .int .u8 (shareZ b0 b1 a1), .int .u8 ((a1 + shareZ a0 0 a1) % 256)] 27 (0, 0))
  have y2 : Has (w8.alloc (.cells #[.int .u8 (shareZ r0 r1 a1), .int .u8 (shareZ g0 g1 a1), .int .u8 (shareZ b0 b1 a1), .int .u8 ((a1 + shareZ a0 0 a1) % 256)] 27 (0, 0))) z2 (.cells #[.int .u8 r1, .int .u8 g1, .int .u8 b1, .int .u8 255] 27 (0, 0)) := u2.alloc (.cells #[.int .u8 (shareZ r0 r1 a1), .int .u8 (shareZ g0 g1 a1), .int .u8 (shareZ b0 b1 a1), .int .u8 ((a1 + shareZ a0 0 a1) % 256)] 27 (0, 0))
  have y3 : Has (w8.alloc (.cells #[.int .u8 (shareZ r0 r1 a1), .int .u8 (shareZ g0 g1 a1), .int .u8 (shareZ b0 b1 a1), .int .u8 ((a1 + shareZ a0 0 a1) % 256)] 27 (0, 0))) w8.heap.size (.cells #[.int .u8 (shareZ r0 r1 a1), .int .u8 (shareZ g0 g1 a1), .int .u8 (shareZ b0 b1 a1), .int .u8 ((a1 + shareZ a0 0 a1) % 256)] 27 (0, 0)) := Has.new w8 _
  have B9 := B8.alloc B8.size (.cells #[.int .u8 (shareZ r0 r1 a1), .int .u8 (shareZ g0 g1 a1), .int .u8 (shareZ b0 b1 a1), .int .u8 ((a1 + shareZ a0 0 a1) % 256)] 27 (0, 0))
  clear v0 v1 v2 v9 B6 b8 u0 u1 u2 B8 d0 d1 d9
  go_wp2_with (fail)
  generalize hU : World.alloc _ _ = U at *
  clear hU
  have cu := cover_up m0.2.2.2 m1.2.2.2
  have L0 : ∀ {w'}, Below U.drew.heap.size U.drew w' → w'.cell? ⟨w.heap.size, 0, none⟩ = some (.int .u8 r0) ∧ w'.cell? ⟨w.heap.size, 1, none⟩ = some (.int .u8 g0) ∧ w'.cell? ⟨w.heap.size, 2, none⟩ = some (.int .u8 b0) ∧ w'.cell? ⟨w.heap.size, 3, none⟩ = some (.int .u8 a0) := fun hB => (y0.drew.below hB y0.drew.lt).four
  have L1 : ∀ {w'}, Below U.drew.heap.size U.drew w' → w'.cell? ⟨w.heap.size + 1, 0, none⟩ = some (.int .u8 r1) ∧ w'.cell? ⟨w.heap.size + 1, 1, none⟩ = some (.int .u8 g1) ∧ w'.cell? ⟨w.heap.size + 1, 2, none⟩ = some (.int .u8 b1) ∧ w'.cell? ⟨w.heap.size + 1, 3, none⟩ = some (.int .u8 a1) := fun hB => (y1.drew.below hB y1.drew.lt).four
  have L2 : ∀ {w'}, Below U.drew.heap.size U.drew w' → w'.cell? ⟨z2, 0, none⟩ = some (.int .u8 r1) ∧ w'.cell? ⟨z2, 1, none⟩ = some (.int .u8 g1) ∧ w'.cell? ⟨z2, 2, none⟩ = some (.int .u8 b1) ∧ w'.cell? ⟨z2, 3, none⟩ = some (.int .u8 255) := fun hB => (y2.drew.below hB y2.drew.lt).four
  have L3 : ∀ {w'}, Below U.drew.heap.size U.drew w' → w'.cell? ⟨w8.heap.size, 0, none⟩ = some (.int .u8 (shareZ r0 r1 a1)) ∧ w'.cell? ⟨w8.heap.size, 1, none⟩ = some (.int .u8 (shareZ g0 g1 a1)) ∧ w'.cell? ⟨w8.heap.size, 2, none⟩ = some (.int .u8 (shareZ b0 b1 a1)) ∧ w'.cell? ⟨w8.heap.size, 3, none⟩ = some (.int .u8 ((a1 + shareZ a0 0 a1) % 256)) := fun hB => (y3.drew.below hB y3.drew.lt).four
  refine wp_region_fresh 57 [(57, false)]
    [(fun _ => .func (.func 22) #[] #[], none),
     (fun _ => .pointer (some ⟨w.heap.size, 0, none⟩), none),
     (fun _ => .int .u8 r0, none),
     (fun _ => .pointer (some ⟨w.heap.size + 1, 0, none⟩), none),
     (fun _ => .int .u8 r1, none),
     (fun _ => .pointer (some ⟨w8.heap.size, 0, none⟩), none),
     (fun _ => .int .u8 (shareZ r0 r1 a1), none),
     (fun _ => .bool true, none),
     (fun _ => .bool true, none),
     (fun _ => .func (.func 22) #[] #[], none),
     (fun _ => .pointer (some ⟨w.heap.size, 1, none⟩), none),
     (fun _ => .int .u8 g0, none),
     (fun _ => .pointer (some ⟨w.heap.size + 1, 1, none⟩), none),
     (fun _ => .int .u8 g1, none),
     (fun _ => .pointer (some ⟨w8.heap.size, 1, none⟩), none),
     (fun _ => .int .u8 (shareZ g0 g1 a1), none),
     (fun _ => .bool true, none),
     (fun _ => .bool true, none),
     (fun _ => .bool true, none),
     (fun _ => .func (.func 22) #[] #[], none),
     (fun _ => .pointer (some ⟨w.heap.size, 2, none⟩), none),
     (fun _ => .int .u8 b0, none),
     (fun _ => .pointer (some ⟨w.heap.size + 1, 2, none⟩), none),
     (fun _ => .int .u8 b1, none),
     (fun _ => .pointer (some ⟨w8.heap.size, 2, none⟩), none),
     (fun _ => .int .u8 (shareZ b0 b1 a1), none),
     (fun _ => .bool true, none),
     (fun _ => .bool true, none),
     (fun _ => .bool true, none),
     (fun _ => .pointer (some ⟨w8.heap.size, 3, none⟩), none),
     (fun _ => .int .u8 ((a1 + shareZ a0 0 a1) % 256), none),
     (fun _ => .pointer (some ⟨w.heap.size + 1, 3, none⟩), none),
     (fun _ => .int .u8 a1, none),
     (fun _ => .bool true, none),
     (fun _ => .bool true, none),
     (fun _ => .bool true, none),
     (fun _ => .pointer (some ⟨w8.heap.size, 3, none⟩), none),
     (fun _ => .int .u8 ((a1 + shareZ a0 0 a1) % 256), none),
     (fun _ => .pointer (some ⟨w.heap.size, 3, none⟩), none),
     (fun _ => .int .u8 a0, none),
     (fun _ => .bool true, none),
     (fun _ => .bool true, none),
     (fun _ => .bool true, none),
     (fun _ => .agg #[.int .u8 r0, .int .u8 g0, .int .u8 b0, .int .u8 a0], none),
     (fun _ => .agg #[.int .u8 r0, .int .u8 g0, .int .u8 b0, .int .u8 a0], none),
     (fun _ => .agg #[.int .u8 r0, .int .u8 g0, .int .u8 b0, .int .u8 a0], none),
     (fun _ => .bool true, none),
     (fun _ => .bool true, none),
     (fun _ => .bool true, none),
     (fun _ => .agg #[.int .u8 r0, .int .u8 g0, .int .u8 b0, .int .u8 a0], none),
     (fun _ => .agg #[.int .u8 r1, .int .u8 g1, .int .u8 b1, .int .u8 a1], none),
     (fun _ => .agg #[.int .u8 r1, .int .u8 g1, .int .u8 b1, .int .u8 255], none),
     (fun b => .slice (some ⟨b, 0, none⟩) 2 2, some (.cells #[.int .u8 r1, .int .u8 g1, .int .u8 b1, .int .u8 a1, .int .u8 r1, .int .u8 g1, .int .u8 b1, .int .u8 255] 27 (0, 0))),
     (fun _ => .agg #[.int .u8 r1, .int .u8 g1, .int .u8 b1, .int .u8 255], none),
     (fun _ => .agg #[.int .u8 r1, .int .u8 g1, .int .u8 b1, .int .u8 255], none),
     (fun _ => .bool true, none),
     (fun _ => .bool true, none)] (fun _ _ => True) (by kernel_rfl) (by kernel_rfl) rfl ?_
  intro z''
  refine fresh_pure rfl rfl (fun w' hB => by go_simp) ?_
  go_simp
  refine fresh_pure rfl rfl (fun w' hB => by go_simp) ?_
  go_simp
  refine fresh_pure rfl rfl (fun w' hB => by have l0 := L0 hB; have l1 := L1 hB; have l2 := L2 hB; have l3 := L3 hB; go_simp) ?_
  go_simp
  refine fresh_pure rfl rfl (fun w' hB => by go_simp) ?_
  go_simp
  refine fresh_pure rfl rfl (fun w' hB => by have l0 := L0 hB; have l1 := L1 hB; have l2 := L2 hB; have l3 := L3 hB; go_simp) ?_
  go_simp
  refine fresh_pure rfl rfl (fun w' hB => by go_simp) ?_
  go_simp
  refine fresh_pure rfl rfl (fun w' hB => by have l0 := L0 hB; have l1 := L1 hB; have l2 := L2 hB; have l3 := L3 hB; go_simp) ?_
  go_simp
  refine fresh_call rfl rfl (fun w' hB hA => by go_simp) (fun w' hB hA => (between_any r0 r1 (shareZ r0 r1 a1) w').mono fun e w'' ⟨h, h'⟩ => ⟨by rw [h, decide_eq_true (share_between m0.1 m1.1 m1.2.2.2)], h' ▸ Below.refl _ _⟩) ?_
  go_simp
  refine fresh_pure rfl rfl (fun w' hB => by go_simp) ?_
  go_simp
  refine fresh_pure rfl rfl (fun w' hB => by go_simp) ?_
  go_simp
  refine fresh_pure rfl rfl (fun w' hB => by go_simp) ?_
  go_simp
  refine fresh_pure rfl rfl (fun w' hB => by have l0 := L0 hB; have l1 := L1 hB; have l2 := L2 hB; have l3 := L3 hB; go_simp) ?_
  go_simp
  refine fresh_pure rfl rfl (fun w' hB => by go_simp) ?_
  go_simp
  refine fresh_pure rfl rfl (fun w' hB => by have l0 := L0 hB; have l1 := L1 hB; have l2 := L2 hB; have l3 := L3 hB; go_simp) ?_
  go_simp
  refine fresh_pure rfl rfl (fun w' hB => by go_simp) ?_
  go_simp
  refine fresh_pure rfl rfl (fun w' hB => by have l0 := L0 hB; have l1 := L1 hB; have l2 := L2 hB; have l3 := L3 hB; go_simp) ?_
  go_simp
  refine fresh_call rfl rfl (fun w' hB hA => by go_simp) (fun w' hB hA => (between_any g0 g1 (shareZ g0 g1 a1) w').mono fun e w'' ⟨h, h'⟩ => ⟨by rw [h, decide_eq_true (share_between m0.2.1 m1.2.1 m1.2.2.2)], h' ▸ Below.refl _ _⟩) ?_
  go_simp
  refine fresh_pure rfl rfl (fun w' hB => by go_simp) ?_
  go_simp
  refine fresh_pure rfl rfl (fun w' hB => by go_simp) ?_
  go_simp
  refine fresh_pure rfl rfl (fun w' hB => by go_simp) ?_
  go_simp
  refine fresh_pure rfl rfl (fun w' hB => by go_simp) ?_
  go_simp
  refine fresh_pure rfl rfl (fun w' hB => by have l0 := L0 hB; have l1 := L1 hB; have l2 := L2 hB; have l3 := L3 hB; go_simp) ?_
  go_simp
  refine fresh_pure rfl rfl (fun w' hB => by go_simp) ?_
  go_simp
  refine fresh_pure rfl rfl (fun w' hB => by have l0 := L0 hB; have l1 := L1 hB; have l2 := L2 hB; have l3 := L3 hB; go_simp) ?_
  go_simp
  refine fresh_pure rfl rfl (fun w' hB => by go_simp) ?_
  go_simp
  refine fresh_pure rfl rfl (fun w' hB => by have l0 := L0 hB; have l1 := L1 hB; have l2 := L2 hB; have l3 := L3 hB; go_simp) ?_
  go_simp
  refine fresh_call rfl rfl (fun w' hB hA => by go_simp) (fun w' hB hA => (between_any b0 b1 (shareZ b0 b1 a1) w').mono fun e w'' ⟨h, h'⟩ => ⟨by rw [h, decide_eq_true (share_between m0.2.2.1 m1.2.2.1 m1.2.2.2)], h' ▸ Below.refl _ _⟩) ?_
  go_simp
  refine fresh_pure rfl rfl (fun w' hB => by go_simp) ?_
  go_simp
  refine fresh_pure rfl rfl (fun w' hB => by go_simp) ?_
  go_simp
  refine fresh_pure rfl rfl (fun w' hB => by go_simp) ?_
  go_simp
  refine fresh_pure rfl rfl (fun w' hB => by have l0 := L0 hB; have l1 := L1 hB; have l2 := L2 hB; have l3 := L3 hB; go_simp) ?_
  go_simp
  refine fresh_pure rfl rfl (fun w' hB => by go_simp) ?_
  go_simp
  refine fresh_pure rfl rfl (fun w' hB => by have l0 := L0 hB; have l1 := L1 hB; have l2 := L2 hB; have l3 := L3 hB; go_simp) ?_
  go_simp
  refine fresh_pure rfl rfl (fun w' hB => by go_simp) ?_
  go_simp
  refine fresh_pure rfl rfl (fun w' hB => by go_simp) ?_
  go_simp
  refine fresh_pure rfl rfl (fun w' hB => by go_simp) ?_
  go_simp
  refine fresh_pure rfl rfl (fun w' hB => by go_simp) ?_
  go_simp
  refine fresh_pure rfl rfl (fun w' hB => by have l0 := L0 hB; have l1 := L1 hB; have l2 := L2 hB; have l3 := L3 hB; go_simp) ?_
  go_simp
  refine fresh_pure rfl rfl (fun w' hB => by go_simp) ?_
  go_simp
  refine fresh_pure rfl rfl (fun w' hB => by have l0 := L0 hB; have l1 := L1 hB; have l2 := L2 hB; have l3 := L3 hB; go_simp) ?_
  go_simp
  refine fresh_pure rfl rfl (fun w' hB => by go_simp) ?_
  go_simp
  refine fresh_pure rfl rfl (fun w' hB => by go_simp) ?_
  go_simp
  refine fresh_pure rfl rfl (fun w' hB => by go_simp) ?_
  go_simp
  refine fresh_pure rfl rfl (fun w' hB => by have l0 := L0 hB; have l1 := L1 hB; have l2 := L2 hB; have l3 := L3 hB; go_simp) ?_
  go_simp
  refine fresh_call rfl rfl (fun w' hB hA => by go_simp) (fun w' hB hA => layers_any (r0, g0, b0, a0) none 0 [] w' m0 colRow_none) ?_
  go_simp
  refine fresh_pure rfl rfl (fun w' hB => by have l0 := L0 hB; have l1 := L1 hB; have l2 := L2 hB; have l3 := L3 hB; go_simp) ?_
  go_simp
  refine fresh_pure rfl rfl (fun w' hB => by go_simp) ?_
  go_simp
  refine fresh_pure rfl rfl (fun w' hB => by go_simp) ?_
  go_simp
  refine fresh_pure rfl rfl (fun w' hB => by go_simp) ?_
  go_simp
  refine fresh_pure rfl rfl (fun w' hB => by have l0 := L0 hB; have l1 := L1 hB; have l2 := L2 hB; have l3 := L3 hB; go_simp) ?_
  go_simp
  refine fresh_pure rfl rfl (fun w' hB => by have l0 := L0 hB; have l1 := L1 hB; have l2 := L2 hB; have l3 := L3 hB; go_simp) ?_
  go_simp
  refine fresh_pure rfl rfl (fun w' hB => by have l0 := L0 hB; have l1 := L1 hB; have l2 := L2 hB; have l3 := L3 hB; go_simp) ?_
  go_simp
  refine fresh_new rfl rfl (fun w' => by go_simp) ?_
  go_simp
  refine fresh_call rfl rfl (fun w' hB hA => by go_simp) (fun w' hB hA => (layers_any (r0, g0, b0, a0) _ 2 [(r1, g1, b1, a1), (r1, g1, b1, 255)] w' m0 (colRow_two (hA 52 _ _ (by kernel_rfl) rfl).2 m1 ⟨m1.1, m1.2.1, m1.2.2.1, show By 255 by decide⟩)).mono fun e w'' ⟨h, h'⟩ => ⟨by rw [h]; exact congrArg (fun c : Col => Ending.returned (colV c)) (over_whole _ _ _ _ _), h'⟩) ?_
  go_simp
  refine fresh_pure rfl rfl (fun w' hB => by have l0 := L0 hB; have l1 := L1 hB; have l2 := L2 hB; have l3 := L3 hB; go_simp) ?_
  go_simp
  refine fresh_pure rfl rfl (fun w' hB => by go_simp) ?_
  go_simp
  refine fresh_pure rfl rfl (fun w' hB => by go_simp) ?_
  go_simp
  refine fresh_end fun V hB hA hD => ?_
  have BF := B9.drew.trans (hB.mono B9.drew.size)
  clear L0 L1 L2 L3 y0 y1 y2 y3 B9 hB hA hD
  go_simp
  repeat (refine sched_pure (v := ?_) rfl rfl ?_ ?_; rotate_left; (focus (intro Y hY; go_simp; try with_reducible rfl)); go_simp; try go_bits)
  refine sched_end ?_
  go_wp2
  go_ret
  exact ⟨rfl, BF⟩
end Go.Proofs.Ytnladfpckejogaa
