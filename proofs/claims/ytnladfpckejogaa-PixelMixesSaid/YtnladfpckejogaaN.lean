/- Walks: does the layer do anything? -/
import Derived.Test.YtnladfpckejogaaM
import Derived.Test.YtnladfpckejogaaX
namespace Go.Proofs.Ytnladfpckejogaa
open Go.RowKit Go.Shelf
attribute [local go_sem] Oper.semAt_some
attribute [local go_sem 2000] run_col
attribute [local go_sem] colB_self

theorem colRow_two {W : World} {r : Nat} {a0 a1 a2 a3 b0 b1 b2 b3 : Int} {T : TypeId} {z : Nat × Nat} (h : Has W r (.cells #[.int .u8 a0, .int .u8 a1, .int .u8 a2, .int .u8 a3, .int .u8 b0, .int .u8 b1, .int .u8 b2, .int .u8 b3] T z))
    (ha : ByC (a0, a1, a2, a3)) (hb : ByC (b0, b1, b2, b3)) : ColRow W (some ⟨r, 0, none⟩) [(a0, a1, a2, a3), (b0, b1, b2, b3)] := by
  refine ⟨by simp [maxLen], fun i c hi => ?_, fun c hc => ?_⟩
  · match i, hi with
    | 0, hi => cases hi; exact ⟨_, rfl, h.cell 0, h.cell 1, h.cell 2, h.cell 3⟩
    | 1, hi => cases hi; exact ⟨_, rfl, h.cell 4, h.cell 5, h.cell 6, h.cell 7⟩
    | i + 2, hi => simp at hi
  · simp only [List.mem_cons, List.not_mem_nil, or_false] at hc
    rcases hc with rfl | rfl <;> assumption

set_option maxRecDepth 100000 in
set_option maxHeartbeats 2000000 in
theorem wakes_any (w : World) : Calls Try.prog 9 #[] w fun e w' => e = .returned (.bool true) ∧ Below w.heap.size w w' := by
  go_enter Try.func9, Try.ntmps9
  go_wp2_with (fail)
  refine (over_any 10 20 30 255 200 100 50 128 _ (by decide) (by decide) (by decide) (by decide) (by decide) (by decide) (by decide) (by decide)).mono ?_
  rintro e w1 ⟨he, b1⟩
  rw [show shareZ 10 200 128 = 105 by decide, show shareZ 20 100 128 = 60 by decide, show shareZ 30 50 128 = 40 by decide, show (128 + shareZ 255 0 128) % 256 = 255 by decide] at he
  subst he
  go_wp2_with (fail)
  generalize hW1 : World.alloc _ _ = W1
  have c1 : Has W1 w1.heap.size (.cells #[.int .u8 105, .int .u8 60, .int .u8 40, .int .u8 255] 27 (0, 0)) := by rw [← hW1]; exact Has.new _ _
  have B1 : Below w.heap.size w W1 := by rw [← hW1]; exact b1.alloc b1.size _
  clear hW1
  refine (read_any _ _).mono ?_
  rintro e w2 ⟨he, b2⟩
  rw [show readV ⟨#[48, 49, 48, 50, 48, 51, 102, 102]⟩ = some 16909311 from by decide] at he
  unfold readR at he
  subst he
  go_wp2_with (fail)
  generalize hW2 : World.alloc _ _ = W2
  have c2 : Has W2 w2.heap.size (.cells #[.int .u8 1, .int .u8 2, .int .u8 3, .int .u8 255] 27 (0, 0)) := by rw [← hW2]; exact Has.new _ _
  have B2 : Below W1.heap.size W1 W2 := by rw [← hW2]; exact b2.alloc b2.size _
  clear hW2 b1 b2
  refine (read_any _ _).mono ?_
  rintro e w3 ⟨he, b3⟩
  rw [show readV ⟨#[48, 49, 103, 50, 48, 51, 48, 52]⟩ = none from by decide] at he
  unfold readR at he
  subst he
  have q1 := ((c1.below B2 c1.lt).below b3 (c1.below B2 c1.lt).lt)
  have q2 := c2.below b3 c2.lt
  have B3 := (B1.trans (B2.mono B1.size)).trans (b3.mono (B1.trans (B2.mono B1.size)).size)
  have r1 := (q1.alloc (.cells #[.int .u8 0, .int .u8 0, .int .u8 0, .int .u8 0] 27 (0, 0))).four
  have r2 := (q2.alloc (.cells #[.int .u8 0, .int .u8 0, .int .u8 0, .int .u8 0] 27 (0, 0))).four
  have B4 := B3.alloc B3.size (.cells #[.int .u8 0, .int .u8 0, .int .u8 0, .int .u8 0] 27 (0, 0))
  clear b3 B1 B2 B3 c1 c2
  go_wp2_with (fail)
  refine (text_any 1 2 3 255 _ (by decide) (by decide) (by decide) (by decide)).mono ?_
  rintro e w4 ⟨he, b4⟩
  rw [show textS 1 2 3 255 = ⟨#[48, 49, 48, 50, 48, 51, 102, 102]⟩ from by decide] at he
  subst he
  have B5 := B4.trans (b4.mono B4.size)
  clear b4 B4 r1 r2
  go_wp2_with (fail)
  refine (pack_any 1 2 3 4 _ (by decide) (by decide) (by decide) (by decide)).mono ?_
  rintro e w5 ⟨he, b5⟩
  rw [show packZ 1 2 3 4 = 16909060 from by decide] at he
  subst he
  have B6 := B5.trans (b5.mono B5.size)
  clear b5 B5
  go_wp2_with (fail)
  refine (far_any 1 2 3 4 4 3 2 1 _ (by decide) (by decide) (by decide) (by decide) (by decide) (by decide) (by decide) (by decide)).mono ?_
  rintro e w6 ⟨he, b6⟩
  rw [show farC 1 2 3 4 4 3 2 1 = 8 from by decide] at he
  subst he
  have B7 := B6.trans (b6.mono B6.size)
  clear b6 B6
  go_wp2_with (fail)
  refine (nearest_any (5, 5, 5, 5) _ _ [(0, 0, 0, 0), (9, 9, 9, 9)] _ (by unfold ByC By; decide) (colRow_two (Has.new _ _) (by unfold ByC By; decide) (by unfold ByC By; decide))).mono ?_
  rintro e w7 ⟨he, b7⟩
  rw [show nearI (farAt (5, 5, 5, 5) [(0, 0, 0, 0), (9, 9, 9, 9)]) [((0, 0, 0, 0) : Col), (9, 9, 9, 9)].length = 1 from by decide] at he
  subst he
  have B8 := (B7.alloc B7.size (.cells #[.int .u8 0, .int .u8 0, .int .u8 0, .int .u8 0, .int .u8 9, .int .u8 9, .int .u8 9, .int .u8 9] 27 (0, 0))).trans (b7.mono (by simp; have := B7.size; omega))
  clear b7 B7
  go_wp2
  go_ret
  exact ⟨rfl, B8⟩
end Go.Proofs.Ytnladfpckejogaa
