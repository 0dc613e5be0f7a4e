/- Walks: colours over others, between others, and how far they are apart. -/
import Derived.Test.YtnladfpckejogaaBi
import Derived.Test.YtnladfpckejogaaC
namespace Go.Proofs.Ytnladfpckejogaa
open Go.RowKit Go.Shelf
attribute [local go_sem 2000] run_col
attribute [local go_sem] colB_self

abbrev By (x : Int) : Prop := 0 ≤ x ∧ x ≤ 255

set_option maxRecDepth 100000 in
set_option maxHeartbeats 1000000 in
theorem over_any (r g b a r' g' b' a' : Int) (w : World) (hr : By r) (hg : By g) (hb : By b) (ha : By a) (hr' : By r') (hg' : By g') (hb' : By b') (ha' : By a') :
    Calls Try.prog 20 #[.agg #[.int .u8 r, .int .u8 g, .int .u8 b, .int .u8 a], .agg #[.int .u8 r', .int .u8 g', .int .u8 b', .int .u8 a']] w fun e w' =>
      e = .returned (.agg #[.int .u8 (shareZ r r' a'), .int .u8 (shareZ g g' a'), .int .u8 (shareZ b b' a'), .int .u8 ((a' + shareZ a 0 a') % 256)]) ∧ Below w.heap.size w w' := by
  go_enter Try.func20, Try.ntmps20
  have k1 := ha'.1
  have k2 := ha'.2
  go_wp2_with (fail)
  generalize hW0 : World.alloc _ _ = W0
  have sz : W0.heap.size = w.heap.size + 4 := by rw [← hW0]; simp
  have b0 : Below w.heap.size w W0 := by rw [← hW0]; exact ((((Below.refl _ _).alloc (by simp) _).alloc (by simp) _).alloc (by simp; omega) _).alloc (by simp; omega) _
  have h0 : Has W0 w.heap.size (.cells #[.int .u8 r, .int .u8 g, .int .u8 b, .int .u8 a] 27 (0, 0)) := by rw [← hW0]; exact (((Has.new' (by simp)).alloc _).alloc _).alloc _
  have h2 : Has W0 (w.heap.size + 1 + 1) (.cells #[.int .u8 0, .int .u8 0, .int .u8 0, .int .u8 0] 27 (0, 0)) := by rw [← hW0]; exact (Has.new' (by simp)).alloc _
  have h3 : Has W0 (w.heap.size + 1 + 1 + 1) (.cells #[.int .i64 a'] 3 (0, 0)) := by rw [← hW0]; exact Has.new' (by simp)
  clear hW0
  refine (bothB_any 39 (enters_of Try.func39 (by kernel_rfl) rfl) #[.pointer (some ⟨w.heap.size + 1 + 1 + 1, 0, none⟩)] (fun x y => shareZ x y a') r g b a r' g' b' a' W0 hr hg hb ha hr' hg' hb' ha'
    (fun x y W x0 x1 y0 y1 hW => over1_any x y a' _ W x0 x1 y0 y1 k1 k2 ((h3.below hW h3.lt).cell 0))).mono ?_
  rintro e w1 ⟨rfl, hb1⟩
  go_wp2_with (fail)
  refine (of_any _ _ _ _ _).mono ?_
  rintro e w2 ⟨rfl, hb2⟩
  have s1 := hb1.size
  have s2 := hb2.size
  have b2 : Below W0.heap.size W0 w2 := hb1.trans (hb2.mono s1)
  have j0 := h0.below b2 h0.lt
  have j2 := h2.below b2 h2.lt
  have j3 := h3.below b2 h3.lt
  clear hb1 hb2
  have Hsz := Lib.hid sz; clear sz
  go_wp2_with (fail)
  generalize hV : World.alloc _ _ = V
  have vs : V.heap.size = w2.heap.size + 1 := by rw [← hV]; simp
  have m0 : Has V w.heap.size (.cells #[.int .u8 r, .int .u8 g, .int .u8 b, .int .u8 a] 27 (0, 0)) := by rw [← hV]; exact j0.alloc _
  have m2 : Has V (w.heap.size + 1 + 1) (.cells #[.int .u8 0, .int .u8 0, .int .u8 0, .int .u8 0] 27 (0, 0)) := by rw [← hV]; exact j2.alloc _
  have m3 : Has V (w.heap.size + 1 + 1 + 1) (.cells #[.int .i64 a'] 3 (0, 0)) := by rw [← hV]; exact j3.alloc _
  have m4 : Has V w2.heap.size (.cells #[.int .u8 (shareZ r r' a'), .int .u8 (shareZ g g' a'), .int .u8 (shareZ b b' a'), .int .u8 (shareZ a a' a')] 58 (0, 0)) := by rw [← hV]; exact Has.new' rfl
  have bV : Below w.heap.size w V := by rw [← hV]; exact (b0.trans (b2.mono (by have := Hsz.out; omega))).alloc (by have := Hsz.out; omega) _
  clear hV
  have c3 : V.cell? ⟨w.heap.size + 1 + 1 + 1, 0, none⟩ = some (.int .i64 a') := m3.cell 0
  have c0 : V.cell? ⟨w.heap.size, 3, none⟩ = some (.int .u8 a) := m0.cell 3
  have c4 : V.cell? ⟨w2.heap.size, 3, none⟩ = some (.int .u8 (shareZ a a' a')) := m4.cell 3
  have f4 := m4.free 3
  have a1 := ha.1
  have a2 := ha.2
  have l0 := shareZ_lo a1 (Int.le_refl 0) k1 k2
  have l1 := shareZ_hi a2 (by omega) (b := 0) k1 k2
  have Hv := Lib.hid vs; clear vs
  refine wp_region_sched [(0, false), (1, false), (2, false), (3, false), (4, false), (5, true), (6, false), (7, false), (8, false), (9, false), (10, true)] (fun Y => Y.cell? ⟨w.heap.size + 1 + 1 + 1, 0, none⟩ = some (.int .i64 a') ∧ Y.cell? ⟨w.heap.size, 3, none⟩ = some (.int .u8 a)) (by kernel_rfl) (by kernel_rfl) ⟨c3, c0⟩ ?_
  repeat (refine sched_pure (v := ?_) rfl rfl ?_ ?_; rotate_left; (focus (intro Y hY; go_simp; try with_reducible rfl)); go_simp; try go_bits)
  refine sched_act rfl rfl ?_
  go_simp
  refine (share_any _ _ _ _ a1 a2 (Int.le_refl 0) (by omega) k1 k2).mono ?_
  rintro e w' ⟨rfl, rfl⟩
  refine ⟨⟨c3, c0⟩, ?_⟩
  go_simp
  repeat (refine sched_pure (v := ?_) rfl rfl ?_ ?_; rotate_left; (focus (intro Y hY; go_simp; try with_reducible rfl)); go_simp; try go_bits)
  refine sched_act rfl rfl ?_
  go_simp
  refine ⟨(m0.other (a := ⟨w2.heap.size, 3, none⟩) _ (by have := Hsz.out; simp; omega)).cell 3, sched_end ?_⟩
  have n4 : Has (V.setCell ⟨w2.heap.size, 3, none⟩ (.int .u8 ((a' + shareZ a 0 a') % 256))) w2.heap.size (.cells #[.int .u8 (shareZ r r' a'), .int .u8 (shareZ g g' a'), .int .u8 (shareZ b b' a'), .int .u8 ((a' + shareZ a 0 a') % 256)] 58 (0, 0)) := m4.set 3 _
  have n2 := m2.other (a := ⟨w2.heap.size, 3, none⟩) (.int .u8 ((a' + shareZ a 0 a') % 256)) (by have := Hsz.out; simp; omega)
  have bX := bV.setCell (p := ⟨w2.heap.size, 3, none⟩) (by have := Hsz.out; simp; omega) (.int .u8 ((a' + shareZ a 0 a') % 256))
  generalize hX : World.setCell V _ _ = X at *
  clear hX
  have d0 : X.cell? ⟨w2.heap.size, 0, none⟩ = some (.int .u8 (shareZ r r' a')) := n4.cell 0
  have d1 : X.cell? ⟨w2.heap.size, 1, none⟩ = some (.int .u8 (shareZ g g' a')) := n4.cell 1
  have d2 : X.cell? ⟨w2.heap.size, 2, none⟩ = some (.int .u8 (shareZ b b' a')) := n4.cell 2
  have d3 : X.cell? ⟨w2.heap.size, 3, none⟩ = some (.int .u8 ((a' + shareZ a 0 a') % 256)) := n4.cell 3
  have e0 : X.cell? ⟨w.heap.size + 1 + 1, 0, none⟩ = some (.int .u8 0) := n2.cell 0
  have e1 : X.cell? ⟨w.heap.size + 1 + 1, 1, none⟩ = some (.int .u8 0) := n2.cell 1
  have e2 : X.cell? ⟨w.heap.size + 1 + 1, 2, none⟩ = some (.int .u8 0) := n2.cell 2
  have e3 : X.cell? ⟨w.heap.size + 1 + 1, 3, none⟩ = some (.int .u8 0) := n2.cell 3
  have g0 := n2.free 0
  have g1 := n2.free 1
  have g2 := n2.free 2
  have g3 := n2.free 3
  go_wp2
  have q := n2.put4 (.int .u8 (shareZ r r' a')) (.int .u8 (shareZ g g' a')) (.int .u8 (shareZ b b' a')) (.int .u8 ((a' + shareZ a 0 a') % 256))
  have bq := below_put4 bX (r := w.heap.size + 1 + 1) (by omega) (.int .u8 (shareZ r r' a')) (.int .u8 (shareZ g g' a')) (.int .u8 (shareZ b b' a')) (.int .u8 ((a' + shareZ a 0 a') % 256))
  unfold w4 at q bq
  generalize hY : World.setCell _ _ _ = Y at *
  have q4 := q.four
  exact bodyPost_ret (v := .agg #[.int .u8 (shareZ r r' a'), .int .u8 (shareZ g g' a'), .int .u8 (shareZ b b' a'), .int .u8 ((a' + shareZ a 0 a') % 256)]) (by simp [results, Try.f20, go_sem, q4]) rfl ⟨rfl, bq.drew⟩

set_option maxRecDepth 100000 in
set_option maxHeartbeats 1000000 in
theorem mix_any (r g b a r' g' b' a' p : Int) (w : World) (hr : By r) (hg : By g) (hb : By b) (ha : By a) (hr' : By r') (hg' : By g') (hb' : By b') (ha' : By a') (hp : By p) :
    Calls Try.prog 21 #[.agg #[.int .u8 r, .int .u8 g, .int .u8 b, .int .u8 a], .agg #[.int .u8 r', .int .u8 g', .int .u8 b', .int .u8 a'], .int .u8 p] w fun e w' =>
      e = .returned (.agg #[.int .u8 (shareZ r r' p), .int .u8 (shareZ g g' p), .int .u8 (shareZ b b' p), .int .u8 (shareZ a a' p)]) ∧ Below w.heap.size w w' := by
  go_enter Try.func21, Try.ntmps21
  have k1 := hp.1
  have k2 := hp.2
  go_wp2_with (fail)
  generalize hW0 : World.alloc _ _ = W0
  have sz : W0.heap.size = w.heap.size + 4 := by rw [← hW0]; simp
  have b0 : Below w.heap.size w W0 := by rw [← hW0]; exact ((((Below.refl _ _).alloc (by simp) _).alloc (by simp) _).alloc (by simp; omega) _).alloc (by simp; omega) _
  have h2 : Has W0 (w.heap.size + 1 + 1) (.cells #[.int .u8 p] 5 (0, 0)) := by rw [← hW0]; exact (Has.new' (by simp)).alloc _
  have h3 : Has W0 (w.heap.size + 1 + 1 + 1) (.cells #[.int .u8 0, .int .u8 0, .int .u8 0, .int .u8 0] 27 (0, 0)) := by rw [← hW0]; exact Has.new' (by simp)
  clear hW0
  refine (bothB_any 41 (enters_of Try.func41 (by kernel_rfl) rfl) #[.pointer (some ⟨w.heap.size + 1 + 1, 0, none⟩)] (fun x y => shareZ x y p) r g b a r' g' b' a' W0 hr hg hb ha hr' hg' hb' ha'
    (fun x y W x0 x1 y0 y1 hW => mix1_any x y p _ W x0 x1 y0 y1 k1 k2 ((h2.below hW h2.lt).cell 0))).mono ?_
  rintro e w1 ⟨rfl, hb1⟩
  go_wp2_with (fail)
  refine (of_any _ _ _ _ _).mono ?_
  rintro e w2 ⟨rfl, hb2⟩
  have b2 : Below W0.heap.size W0 w2 := hb1.trans (hb2.mono hb1.size)
  have j3 := h3.below b2 h3.lt
  have bb := b0.trans (b2.mono (by omega))
  clear hb1 hb2
  have Hsz := Lib.hid sz; clear sz
  have c4 := j3.four
  have f4 := j3.free4
  go_wp2_with (fail)
  have q := j3.put4 (.int .u8 (shareZ r r' p)) (.int .u8 (shareZ g g' p)) (.int .u8 (shareZ b b' p)) (.int .u8 (shareZ a a' p))
  have bq := below_put4 bb (r := w.heap.size + 1 + 1 + 1) (by omega) (.int .u8 (shareZ r r' p)) (.int .u8 (shareZ g g' p)) (.int .u8 (shareZ b b' p)) (.int .u8 (shareZ a a' p))
  unfold w4 at q bq
  generalize hY : World.setCell _ _ _ = Y at *
  have q4 := q.four
  exact bodyPost_ret (v := .agg #[.int .u8 (shareZ r r' p), .int .u8 (shareZ g g' p), .int .u8 (shareZ b b' p), .int .u8 (shareZ a a' p)]) (by simp [results, Try.f21, go_sem, q4]) rfl ⟨rfl, bq⟩

def farC (r g b a r' g' b' a' : Int) : Int := farZ r r' + farZ g g' + farZ b b' + farZ a a'

set_option maxRecDepth 100000 in
set_option maxHeartbeats 1000000 in
theorem far_any (r g b a r' g' b' a' : Int) (w : World) (hr : By r) (hg : By g) (hb : By b) (ha : By a) (hr' : By r') (hg' : By g') (hb' : By b') (ha' : By a') :
    Calls Try.prog 17 #[.agg #[.int .u8 r, .int .u8 g, .int .u8 b, .int .u8 a], .agg #[.int .u8 r', .int .u8 g', .int .u8 b', .int .u8 a']] w fun e w' =>
      e = .returned (.int .i64 (farC r g b a r' g' b' a')) ∧ Below w.heap.size w w' := by
  by_cases hcol : colB r g b a r' g' b' a' = true
  · go_enter Try.func17, Try.ntmps17
    go_wp2
    go_ret
    obtain ⟨rfl, rfl, rfl, rfl⟩ := colB_true hcol
    exact ⟨congrArg (fun n => Ending.returned (Value.int .i64 n)) (by unfold farC farZ; omega), ((Below.refl _ _).alloc (Nat.le_refl _) _).alloc (by simp) _⟩
  · have hcol : colB r g b a r' g' b' a' = false := by simpa using hcol
    have i0 : ∀ w, (Instr.index 61 (.agg #[.int .i64 (farZ r r'), .int .i64 (farZ g g'), .int .i64 (farZ b b'), .int .i64 (farZ a a')]) (.int .i64 0)).run Try.prog w = .ok (.int .i64 (farZ r r')) w := fun _ => by kernel_rfl
    have i1 : ∀ w, (Instr.index 61 (.agg #[.int .i64 (farZ r r'), .int .i64 (farZ g g'), .int .i64 (farZ b b'), .int .i64 (farZ a a')]) (.int .i64 1)).run Try.prog w = .ok (.int .i64 (farZ g g')) w := fun _ => by kernel_rfl
    have i2 : ∀ w, (Instr.index 61 (.agg #[.int .i64 (farZ r r'), .int .i64 (farZ g g'), .int .i64 (farZ b b'), .int .i64 (farZ a a')]) (.int .i64 2)).run Try.prog w = .ok (.int .i64 (farZ b b')) w := fun _ => by kernel_rfl
    have i3 : ∀ w, (Instr.index 61 (.agg #[.int .i64 (farZ r r'), .int .i64 (farZ g g'), .int .i64 (farZ b b'), .int .i64 (farZ a a')]) (.int .i64 3)).run Try.prog w = .ok (.int .i64 (farZ a a')) w := fun _ => by kernel_rfl
    have z0 : 0 ≤ farZ r r' := by unfold farZ; omega
    have z1 : 0 ≤ farZ g g' := by unfold farZ; omega
    have z2 : 0 ≤ farZ b b' := by unfold farZ; omega
    have z3 : 0 ≤ farZ a a' := by unfold farZ; omega
    have y0 : farZ r r' ≤ 255 := by unfold farZ; omega
    have y1 : farZ g g' ≤ 255 := by unfold farZ; omega
    have y2 : farZ b b' ≤ 255 := by unfold farZ; omega
    have y3 : farZ a a' ≤ 255 := by unfold farZ; omega
    go_enter Try.func17, Try.ntmps17
    go_wp2_with (fail)
    generalize hW0 : World.alloc _ _ = W0
    have b0 : Below w.heap.size w W0 := by rw [← hW0]; exact ((Below.refl _ _).alloc (by simp) _).alloc (by simp) _
    clear hW0
    refine (bothI_any 36 (enters_of Try.func36 (by kernel_rfl) rfl) #[] farZ r g b a r' g' b' a' W0 hr hg hb ha hr' hg' hb' ha' (fun x y W x0 x1 y0 y1 _ => far1_any x y W x0 x1 y0 y1)).mono ?_
    rintro e w1 ⟨rfl, hb1⟩
    have bb : Below w.heap.size w w1 := b0.trans (hb1.mono b0.size)
    clear hb1
    clear hr hg hb ha hr' hg' hb' ha'
    go_wp2
    refine wp_loop_rounds 5 ?_
    rw [rounds_succ]
    go_wp2
    rw [rounds_succ]
    go_wp2
    rw [rounds_succ]
    go_wp2
    rw [rounds_succ]
    go_wp2
    rw [rounds_succ]
    go_wp2
    go_ret
    exact ⟨congrArg (fun n => Ending.returned (Value.int .i64 n)) (by unfold farC; omega), bb⟩

theorem farC_lo (r g b a r' g' b' a' : Int) : 0 ≤ farC r g b a r' g' b' a' := by unfold farC farZ; omega
theorem farC_hi {r g b a r' g' b' a' : Int} (hr : By r) (hg : By g) (hb : By b) (ha : By a) (hr' : By r') (hg' : By g') (hb' : By b') (ha' : By a') : farC r g b a r' g' b' a' ≤ 1020 := by
  unfold By at *; unfold farC farZ; omega

set_option maxHeartbeats 400000 in
theorem near_any (r g b a r' g' b' a' t : Int) (w : World) (hr : By r) (hg : By g) (hb : By b) (ha : By a) (hr' : By r') (hg' : By g') (hb' : By b') (ha' : By a') :
    Calls Try.prog 18 #[.agg #[.int .u8 r, .int .u8 g, .int .u8 b, .int .u8 a], .agg #[.int .u8 r', .int .u8 g', .int .u8 b', .int .u8 a'], .int .i64 t] w fun e w' =>
      e = .returned (.bool (decide (farC r g b a r' g' b' a' ≤ t))) ∧ Below w.heap.size w w' := by
  go_enter Try.func18, Try.ntmps18
  go_wp2_with (fail)
  refine (far_any _ _ _ _ _ _ _ _ _ hr hg hb ha hr' hg' hb' ha').mono ?_
  rintro e w1 ⟨rfl, hb1⟩
  go_wp2
  go_ret
  exact ⟨rfl, (((Below.refl _ _).alloc (Nat.le_refl _) _).alloc (by simp) _).trans (hb1.mono (by simp; omega))⟩
end Go.Proofs.Ytnladfpckejogaa
