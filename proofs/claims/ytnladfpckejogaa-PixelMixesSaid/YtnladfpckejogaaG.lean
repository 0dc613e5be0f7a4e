/- Walks: what the document says of colours over others, between others, and how far they are apart. -/
import Derived.Test.YtnladfpckejogaaE
import Derived.Deep.LoopGhost
namespace Go.Proofs.Ytnladfpckejogaa
open Go.RowKit Go.Shelf
attribute [local go_sem] Oper.semAt_some

/-- the parts of two colours, laid in two rows -/
def TwoParts (r g b a r' g' b' a' : Int) (p q : Nat) (W : World) : Prop := Has W p (.cells #[.int .i64 r, .int .i64 g, .int .i64 b, .int .i64 a] 61 (0, 0)) ∧ Has W q (.cells #[.int .i64 r', .int .i64 g', .int .i64 b', .int .i64 a'] 61 (0, 0))
/-- how far a sum is -/
def FarSt (r g b a r' g' b' a' : Int) (n : Nat) (x : Int) (i : Value) : Prop :=
  (n = 4 ∧ x = 0 ∧ i = .int .i64 0) ∨ (n = 3 ∧ x = farZ r r' ∧ i = .int .i64 1) ∨ (n = 2 ∧ x = farZ r r' + farZ g g' ∧ i = .int .i64 2) ∨
  (n = 1 ∧ x = farZ r r' + farZ g g' + farZ b b' ∧ i = .int .i64 3) ∨ (n = 0 ∧ x = farC r g b a r' g' b' a' ∧ i = .int .i64 4)

set_option maxRecDepth 100000 in
set_option maxHeartbeats 1000000 in
theorem rfar_any (r g b a r' g' b' a' : Int) (w : World) (hr : By r) (hg : By g) (hb : By b) (ha : By a) (hr' : By r') (hg' : By g') (hb' : By b') (ha' : By a') :
    Calls Try.prog 25 #[.agg #[.int .u8 r, .int .u8 g, .int .u8 b, .int .u8 a], .agg #[.int .u8 r', .int .u8 g', .int .u8 b', .int .u8 a']] w fun e w' =>
      e = .returned (.int .i64 (farC r g b a r' g' b' a')) ∧ Below w.heap.size w w' := by
  go_enter Try.func25, Try.ntmps25
  go_wp2_with (fail)
  generalize hW0 : World.alloc _ _ = W0
  have b0 : Below w.heap.size w W0 := by rw [← hW0]; exact ((Below.refl _ _).alloc (by simp) _).alloc (by simp) _
  have h0 : Has W0 w.heap.size (.cells #[.int .u8 r, .int .u8 g, .int .u8 b, .int .u8 a] 27 (0, 0)) := by rw [← hW0]; exact (Has.new' (by simp)).alloc _
  have h1 : Has W0 (w.heap.size + 1) (.cells #[.int .u8 r', .int .u8 g', .int .u8 b', .int .u8 a'] 27 (0, 0)) := by rw [← hW0]; exact Has.new' (by simp)
  clear hW0
  refine wp_region_fresh 6 [(6, true), (7, true)]
    [(fun _ => .agg #[.int .u8 r, .int .u8 g, .int .u8 b, .int .u8 a], none), (fun _ => .agg #[.int .i64 r, .int .i64 g, .int .i64 b, .int .i64 a], none),
     (fun _ => .agg #[.int .u8 r', .int .u8 g', .int .u8 b', .int .u8 a'], none), (fun _ => .agg #[.int .i64 r', .int .i64 g', .int .i64 b', .int .i64 a'], none),
     (fun b => .pointer (some ⟨b, 0, none⟩), some (.cells #[.int .i64 0, .int .i64 0, .int .i64 0, .int .i64 0] 61 (0, 0))),
     (fun b => .pointer (some ⟨b, 0, none⟩), some (.cells #[.int .i64 0, .int .i64 0, .int .i64 0, .int .i64 0] 61 (0, 0)))] (fun _ _ => True) (by kernel_rfl) (by kernel_rfl) rfl ?_
  intro z
  have L0 : ∀ {w'}, Below W0.drew.heap.size W0.drew w' → w'.cell? ⟨w.heap.size, 0, none⟩ = some (.int .u8 r) ∧ w'.cell? ⟨w.heap.size, 1, none⟩ = some (.int .u8 g) ∧ w'.cell? ⟨w.heap.size, 2, none⟩ = some (.int .u8 b) ∧ w'.cell? ⟨w.heap.size, 3, none⟩ = some (.int .u8 a) := fun hB => (h0.drew.below hB h0.lt).four
  have L1 : ∀ {w'}, Below W0.drew.heap.size W0.drew w' → w'.cell? ⟨w.heap.size + 1, 0, none⟩ = some (.int .u8 r') ∧ w'.cell? ⟨w.heap.size + 1, 1, none⟩ = some (.int .u8 g') ∧ w'.cell? ⟨w.heap.size + 1, 2, none⟩ = some (.int .u8 b') ∧ w'.cell? ⟨w.heap.size + 1, 3, none⟩ = some (.int .u8 a') := fun hB => (h1.drew.below hB h1.lt).four
  refine fresh_pure rfl rfl (fun w' hB => ?_) ?_
  · have l0 := L0 hB
    go_simp
  refine fresh_call rfl rfl (fun w' hB _ => ?_) (fun w' _ _ => rparts_any _ _ _ _ _ hr hg hb ha) ?_
  · go_simp
  refine fresh_pure rfl rfl (fun w' hB => ?_) ?_
  · have l1 := L1 hB
    go_simp
  refine fresh_call rfl rfl (fun w' hB _ => ?_) (fun w' _ _ => rparts_any _ _ _ _ _ hr' hg' hb' ha') ?_
  · go_simp
  refine fresh_new rfl rfl (fun w' => ?_) ?_
  · go_simp
  refine fresh_new rfl rfl (fun w' => ?_) ?_
  · go_simp
  refine fresh_end fun V hB hA hD => ⟨trivial, ?_⟩
  obtain ⟨z4, k4⟩ := hA 4 _ _ rfl
  obtain ⟨z5, k5⟩ := hA 5 _ _ rfl
  have zn := hD 4 5 _ _ _ _ (by omega) rfl rfl
  go_simp
  have bV : Below w.heap.size w V := b0.drew.trans (hB.mono b0.drew.size)
  have sz := b0.drew.size
  have f4 := k4.free4
  have e4 := k4.four
  refine sched_act rfl rfl ?_
  go_simp
  have q4 := k4.put4 (.int .i64 r) (.int .i64 g) (.int .i64 b) (.int .i64 a)
  have q5 := k5.put4_other (r := z 4) (.int .i64 r) (.int .i64 g) (.int .i64 b) (.int .i64 a) (Ne.symm zn)
  have bq := below_put4 bV (r := z 4) (Nat.le_trans sz z4) (.int .i64 r) (.int .i64 g) (.int .i64 b) (.int .i64 a)
  unfold w4 at q4 q5 bq
  generalize hY : World.setCell _ _ _ = Y at *
  have f5 := q5.free4
  have e5 := q5.four
  clear hY k4 k5 f4 e4 bV hB
  refine sched_act rfl rfl ?_
  go_simp
  have p5 := q5.put4 (.int .i64 r') (.int .i64 g') (.int .i64 b') (.int .i64 a')
  have p4 := q4.put4_other (r := z 5) (.int .i64 r') (.int .i64 g') (.int .i64 b') (.int .i64 a') zn
  have bp := below_put4 bq (r := z 5) (Nat.le_trans sz z5) (.int .i64 r') (.int .i64 g') (.int .i64 b') (.int .i64 a')
  unfold w4 at p4 p5 bp
  generalize hZ : World.setCell _ _ _ = Z at *
  have c4 := p4.four
  have c5 := p5.four
  clear hZ q4 q5 f5 e5 bq hA hD
  refine sched_end ?_
  clear z4 z5 sz
  unfold By at *
  go_wp2
  have ht : TwoParts r g b a r' g' b' a' (z 4) (z 5) Z ∧ Below w.heap.size w Z := ⟨⟨p4, p5⟩, bp⟩
  clear p4 p5 c4 c5 bp h0 h1 L0 L1 b0 zn
  go_loopg [7, 13] 4 (fun n s i wr => (∃ x, s = .int .i64 x ∧ FarSt r g b a r' g' b' a' n x i) ∧ TwoParts r g b a r' g' b' a' (z 4) (z 5) wr ∧ Below w.heap.size w wr)
  case atStart => exact ⟨⟨0, rfl, .inl ⟨rfl, rfl, rfl⟩⟩, ht⟩
  case round =>
    obtain ⟨⟨x, rfl, hx⟩, ⟨p4, p5⟩, bp⟩ := hrel
    have c4 := p4.four
    have c5 := p5.four
    rcases hx with ⟨rfl, rfl, rfl⟩ | ⟨rfl, rfl, rfl⟩ | ⟨rfl, rfl, rfl⟩ | ⟨rfl, rfl, rfl⟩ | ⟨rfl, rfl, rfl⟩
    · go_wp2
      refine wp_region_sched [(0, false), (1, false), (2, false), (3, false), (4, false), (5, false), (6, false)] (fun Y => (Y.cell? ⟨z 4, 0, none⟩ = some (.int .i64 r) ∧ Y.cell? ⟨z 4, 1, none⟩ = some (.int .i64 g) ∧ Y.cell? ⟨z 4, 2, none⟩ = some (.int .i64 b) ∧ Y.cell? ⟨z 4, 3, none⟩ = some (.int .i64 a)) ∧ Y.cell? ⟨z 5, 0, none⟩ = some (.int .i64 r') ∧ Y.cell? ⟨z 5, 1, none⟩ = some (.int .i64 g') ∧ Y.cell? ⟨z 5, 2, none⟩ = some (.int .i64 b') ∧ Y.cell? ⟨z 5, 3, none⟩ = some (.int .i64 a')) (by kernel_rfl) (by kernel_rfl) ⟨c4, c5⟩ ?_
      repeat (refine sched_pure (v := ?_) rfl rfl ?_ ?_; rotate_left; (focus (intro Y hY; go_simp; try with_reducible rfl)); go_simp; try go_bits)
      refine sched_end ?_
      go_wp2
      · refine wp_region_sched [(0, false), (1, false), (2, false), (3, false), (4, false), (5, false), (6, false), (7, false), (8, false), (9, false)] (fun Y => (Y.cell? ⟨z 4, 0, none⟩ = some (.int .i64 r) ∧ Y.cell? ⟨z 4, 1, none⟩ = some (.int .i64 g) ∧ Y.cell? ⟨z 4, 2, none⟩ = some (.int .i64 b) ∧ Y.cell? ⟨z 4, 3, none⟩ = some (.int .i64 a)) ∧ Y.cell? ⟨z 5, 0, none⟩ = some (.int .i64 r') ∧ Y.cell? ⟨z 5, 1, none⟩ = some (.int .i64 g') ∧ Y.cell? ⟨z 5, 2, none⟩ = some (.int .i64 b') ∧ Y.cell? ⟨z 5, 3, none⟩ = some (.int .i64 a')) (by kernel_rfl) (by kernel_rfl) ⟨c4, c5⟩ ?_
        repeat (refine sched_pure (v := ?_) rfl rfl ?_ ?_; rotate_left; (focus (intro Y hY; go_simp; try with_reducible rfl)); go_simp; try go_bits)
        refine sched_end ?_
        go_wp2
        go_roundg 3
        case measure => omega
        case rel =>
          refine ⟨⟨_, rfl, .inr (.inl ⟨rfl, ?_, rfl⟩)⟩, ⟨p4, p5⟩, bp.drew.drew⟩
          unfold farZ; omega
      · refine wp_region_sched [(0, false), (1, false), (2, false), (3, false), (4, false), (5, false), (6, false), (7, false), (8, false), (9, false)] (fun Y => (Y.cell? ⟨z 4, 0, none⟩ = some (.int .i64 r) ∧ Y.cell? ⟨z 4, 1, none⟩ = some (.int .i64 g) ∧ Y.cell? ⟨z 4, 2, none⟩ = some (.int .i64 b) ∧ Y.cell? ⟨z 4, 3, none⟩ = some (.int .i64 a)) ∧ Y.cell? ⟨z 5, 0, none⟩ = some (.int .i64 r') ∧ Y.cell? ⟨z 5, 1, none⟩ = some (.int .i64 g') ∧ Y.cell? ⟨z 5, 2, none⟩ = some (.int .i64 b') ∧ Y.cell? ⟨z 5, 3, none⟩ = some (.int .i64 a')) (by kernel_rfl) (by kernel_rfl) ⟨c4, c5⟩ ?_
        repeat (refine sched_pure (v := ?_) rfl rfl ?_ ?_; rotate_left; (focus (intro Y hY; go_simp; try with_reducible rfl)); go_simp; try go_bits)
        refine sched_end ?_
        go_wp2
        go_roundg 3
        case measure => omega
        case rel =>
          refine ⟨⟨_, rfl, .inr (.inl ⟨rfl, ?_, rfl⟩)⟩, ⟨p4, p5⟩, bp.drew.drew⟩
          unfold farZ; omega
    · have xl : 0 ≤ farZ r r' ∧ farZ r r' ≤ 255 := by unfold farZ; omega
      generalize hx : farZ r r' = x at *
      have Hx := Lib.hid hx; clear hx
      go_wp2
      refine wp_region_sched [(0, false), (1, false), (2, false), (3, false), (4, false), (5, false), (6, false)] (fun Y => (Y.cell? ⟨z 4, 0, none⟩ = some (.int .i64 r) ∧ Y.cell? ⟨z 4, 1, none⟩ = some (.int .i64 g) ∧ Y.cell? ⟨z 4, 2, none⟩ = some (.int .i64 b) ∧ Y.cell? ⟨z 4, 3, none⟩ = some (.int .i64 a)) ∧ Y.cell? ⟨z 5, 0, none⟩ = some (.int .i64 r') ∧ Y.cell? ⟨z 5, 1, none⟩ = some (.int .i64 g') ∧ Y.cell? ⟨z 5, 2, none⟩ = some (.int .i64 b') ∧ Y.cell? ⟨z 5, 3, none⟩ = some (.int .i64 a')) (by kernel_rfl) (by kernel_rfl) ⟨c4, c5⟩ ?_
      repeat (refine sched_pure (v := ?_) rfl rfl ?_ ?_; rotate_left; (focus (intro Y hY; go_simp; try with_reducible rfl)); go_simp; try go_bits)
      refine sched_end ?_
      go_wp2
      · refine wp_region_sched [(0, false), (1, false), (2, false), (3, false), (4, false), (5, false), (6, false), (7, false), (8, false), (9, false)] (fun Y => (Y.cell? ⟨z 4, 0, none⟩ = some (.int .i64 r) ∧ Y.cell? ⟨z 4, 1, none⟩ = some (.int .i64 g) ∧ Y.cell? ⟨z 4, 2, none⟩ = some (.int .i64 b) ∧ Y.cell? ⟨z 4, 3, none⟩ = some (.int .i64 a)) ∧ Y.cell? ⟨z 5, 0, none⟩ = some (.int .i64 r') ∧ Y.cell? ⟨z 5, 1, none⟩ = some (.int .i64 g') ∧ Y.cell? ⟨z 5, 2, none⟩ = some (.int .i64 b') ∧ Y.cell? ⟨z 5, 3, none⟩ = some (.int .i64 a')) (by kernel_rfl) (by kernel_rfl) ⟨c4, c5⟩ ?_
        repeat (refine sched_pure (v := ?_) rfl rfl ?_ ?_; rotate_left; (focus (intro Y hY; go_simp; try with_reducible rfl)); go_simp; try go_bits)
        refine sched_end ?_
        go_wp2
        go_roundg 2
        case measure => omega
        case rel =>
          refine ⟨⟨_, rfl, .inr (.inr (.inl ⟨rfl, ?_, rfl⟩))⟩, ⟨p4, p5⟩, bp.drew.drew⟩
          have hx := Hx.out; clear Hx
          subst hx
          clear xl
          unfold farZ; omega
      · refine wp_region_sched [(0, false), (1, false), (2, false), (3, false), (4, false), (5, false), (6, false), (7, false), (8, false), (9, false)] (fun Y => (Y.cell? ⟨z 4, 0, none⟩ = some (.int .i64 r) ∧ Y.cell? ⟨z 4, 1, none⟩ = some (.int .i64 g) ∧ Y.cell? ⟨z 4, 2, none⟩ = some (.int .i64 b) ∧ Y.cell? ⟨z 4, 3, none⟩ = some (.int .i64 a)) ∧ Y.cell? ⟨z 5, 0, none⟩ = some (.int .i64 r') ∧ Y.cell? ⟨z 5, 1, none⟩ = some (.int .i64 g') ∧ Y.cell? ⟨z 5, 2, none⟩ = some (.int .i64 b') ∧ Y.cell? ⟨z 5, 3, none⟩ = some (.int .i64 a')) (by kernel_rfl) (by kernel_rfl) ⟨c4, c5⟩ ?_
        repeat (refine sched_pure (v := ?_) rfl rfl ?_ ?_; rotate_left; (focus (intro Y hY; go_simp; try with_reducible rfl)); go_simp; try go_bits)
        refine sched_end ?_
        go_wp2
        go_roundg 2
        case measure => omega
        case rel =>
          refine ⟨⟨_, rfl, .inr (.inr (.inl ⟨rfl, ?_, rfl⟩))⟩, ⟨p4, p5⟩, bp.drew.drew⟩
          have hx := Hx.out; clear Hx
          subst hx
          clear xl
          unfold farZ; omega
    · have xl : 0 ≤ farZ r r' + farZ g g' ∧ farZ r r' + farZ g g' ≤ 510 := by unfold farZ; omega
      generalize hx : farZ r r' + farZ g g' = x at *
      have Hx := Lib.hid hx; clear hx
      go_wp2
      refine wp_region_sched [(0, false), (1, false), (2, false), (3, false), (4, false), (5, false), (6, false)] (fun Y => (Y.cell? ⟨z 4, 0, none⟩ = some (.int .i64 r) ∧ Y.cell? ⟨z 4, 1, none⟩ = some (.int .i64 g) ∧ Y.cell? ⟨z 4, 2, none⟩ = some (.int .i64 b) ∧ Y.cell? ⟨z 4, 3, none⟩ = some (.int .i64 a)) ∧ Y.cell? ⟨z 5, 0, none⟩ = some (.int .i64 r') ∧ Y.cell? ⟨z 5, 1, none⟩ = some (.int .i64 g') ∧ Y.cell? ⟨z 5, 2, none⟩ = some (.int .i64 b') ∧ Y.cell? ⟨z 5, 3, none⟩ = some (.int .i64 a')) (by kernel_rfl) (by kernel_rfl) ⟨c4, c5⟩ ?_
      repeat (refine sched_pure (v := ?_) rfl rfl ?_ ?_; rotate_left; (focus (intro Y hY; go_simp; try with_reducible rfl)); go_simp; try go_bits)
      refine sched_end ?_
      go_wp2
      · refine wp_region_sched [(0, false), (1, false), (2, false), (3, false), (4, false), (5, false), (6, false), (7, false), (8, false), (9, false)] (fun Y => (Y.cell? ⟨z 4, 0, none⟩ = some (.int .i64 r) ∧ Y.cell? ⟨z 4, 1, none⟩ = some (.int .i64 g) ∧ Y.cell? ⟨z 4, 2, none⟩ = some (.int .i64 b) ∧ Y.cell? ⟨z 4, 3, none⟩ = some (.int .i64 a)) ∧ Y.cell? ⟨z 5, 0, none⟩ = some (.int .i64 r') ∧ Y.cell? ⟨z 5, 1, none⟩ = some (.int .i64 g') ∧ Y.cell? ⟨z 5, 2, none⟩ = some (.int .i64 b') ∧ Y.cell? ⟨z 5, 3, none⟩ = some (.int .i64 a')) (by kernel_rfl) (by kernel_rfl) ⟨c4, c5⟩ ?_
        repeat (refine sched_pure (v := ?_) rfl rfl ?_ ?_; rotate_left; (focus (intro Y hY; go_simp; try with_reducible rfl)); go_simp; try go_bits)
        refine sched_end ?_
        go_wp2
        go_roundg 1
        case measure => omega
        case rel =>
          refine ⟨⟨_, rfl, .inr (.inr (.inr (.inl ⟨rfl, ?_, rfl⟩)))⟩, ⟨p4, p5⟩, bp.drew.drew⟩
          have hx := Hx.out; clear Hx
          subst hx
          clear xl
          unfold farZ; omega
      · refine wp_region_sched [(0, false), (1, false), (2, false), (3, false), (4, false), (5, false), (6, false), (7, false), (8, false), (9, false)] (fun Y => (Y.cell? ⟨z 4, 0, none⟩ = some (.int .i64 r) ∧ Y.cell? ⟨z 4, 1, none⟩ = some (.int .i64 g) ∧ Y.cell? ⟨z 4, 2, none⟩ = some (.int .i64 b) ∧ Y.cell? ⟨z 4, 3, none⟩ = some (.int .i64 a)) ∧ Y.cell? ⟨z 5, 0, none⟩ = some (.int .i64 r') ∧ Y.cell? ⟨z 5, 1, none⟩ = some (.int .i64 g') ∧ Y.cell? ⟨z 5, 2, none⟩ = some (.int .i64 b') ∧ Y.cell? ⟨z 5, 3, none⟩ = some (.int .i64 a')) (by kernel_rfl) (by kernel_rfl) ⟨c4, c5⟩ ?_
        repeat (refine sched_pure (v := ?_) rfl rfl ?_ ?_; rotate_left; (focus (intro Y hY; go_simp; try with_reducible rfl)); go_simp; try go_bits)
        refine sched_end ?_
        go_wp2
        go_roundg 1
        case measure => omega
        case rel =>
          refine ⟨⟨_, rfl, .inr (.inr (.inr (.inl ⟨rfl, ?_, rfl⟩)))⟩, ⟨p4, p5⟩, bp.drew.drew⟩
          have hx := Hx.out; clear Hx
          subst hx
          clear xl
          unfold farZ; omega
    · have xl : 0 ≤ farZ r r' + farZ g g' + farZ b b' ∧ farZ r r' + farZ g g' + farZ b b' ≤ 765 := by unfold farZ; omega
      generalize hx : farZ r r' + farZ g g' + farZ b b' = x at *
      have Hx := Lib.hid hx; clear hx
      go_wp2
      refine wp_region_sched [(0, false), (1, false), (2, false), (3, false), (4, false), (5, false), (6, false)] (fun Y => (Y.cell? ⟨z 4, 0, none⟩ = some (.int .i64 r) ∧ Y.cell? ⟨z 4, 1, none⟩ = some (.int .i64 g) ∧ Y.cell? ⟨z 4, 2, none⟩ = some (.int .i64 b) ∧ Y.cell? ⟨z 4, 3, none⟩ = some (.int .i64 a)) ∧ Y.cell? ⟨z 5, 0, none⟩ = some (.int .i64 r') ∧ Y.cell? ⟨z 5, 1, none⟩ = some (.int .i64 g') ∧ Y.cell? ⟨z 5, 2, none⟩ = some (.int .i64 b') ∧ Y.cell? ⟨z 5, 3, none⟩ = some (.int .i64 a')) (by kernel_rfl) (by kernel_rfl) ⟨c4, c5⟩ ?_
      repeat (refine sched_pure (v := ?_) rfl rfl ?_ ?_; rotate_left; (focus (intro Y hY; go_simp; try with_reducible rfl)); go_simp; try go_bits)
      refine sched_end ?_
      go_wp2
      · refine wp_region_sched [(0, false), (1, false), (2, false), (3, false), (4, false), (5, false), (6, false), (7, false), (8, false), (9, false)] (fun Y => (Y.cell? ⟨z 4, 0, none⟩ = some (.int .i64 r) ∧ Y.cell? ⟨z 4, 1, none⟩ = some (.int .i64 g) ∧ Y.cell? ⟨z 4, 2, none⟩ = some (.int .i64 b) ∧ Y.cell? ⟨z 4, 3, none⟩ = some (.int .i64 a)) ∧ Y.cell? ⟨z 5, 0, none⟩ = some (.int .i64 r') ∧ Y.cell? ⟨z 5, 1, none⟩ = some (.int .i64 g') ∧ Y.cell? ⟨z 5, 2, none⟩ = some (.int .i64 b') ∧ Y.cell? ⟨z 5, 3, none⟩ = some (.int .i64 a')) (by kernel_rfl) (by kernel_rfl) ⟨c4, c5⟩ ?_
        repeat (refine sched_pure (v := ?_) rfl rfl ?_ ?_; rotate_left; (focus (intro Y hY; go_simp; try with_reducible rfl)); go_simp; try go_bits)
        refine sched_end ?_
        go_wp2
        go_roundg 0
        case measure => omega
        case rel =>
          refine ⟨⟨_, rfl, .inr (.inr (.inr (.inr (⟨rfl, ?_, rfl⟩))))⟩, ⟨p4, p5⟩, bp.drew.drew⟩
          have hx := Hx.out; clear Hx
          subst hx
          clear xl
          unfold farC farZ; omega
      · refine wp_region_sched [(0, false), (1, false), (2, false), (3, false), (4, false), (5, false), (6, false), (7, false), (8, false), (9, false)] (fun Y => (Y.cell? ⟨z 4, 0, none⟩ = some (.int .i64 r) ∧ Y.cell? ⟨z 4, 1, none⟩ = some (.int .i64 g) ∧ Y.cell? ⟨z 4, 2, none⟩ = some (.int .i64 b) ∧ Y.cell? ⟨z 4, 3, none⟩ = some (.int .i64 a)) ∧ Y.cell? ⟨z 5, 0, none⟩ = some (.int .i64 r') ∧ Y.cell? ⟨z 5, 1, none⟩ = some (.int .i64 g') ∧ Y.cell? ⟨z 5, 2, none⟩ = some (.int .i64 b') ∧ Y.cell? ⟨z 5, 3, none⟩ = some (.int .i64 a')) (by kernel_rfl) (by kernel_rfl) ⟨c4, c5⟩ ?_
        repeat (refine sched_pure (v := ?_) rfl rfl ?_ ?_; rotate_left; (focus (intro Y hY; go_simp; try with_reducible rfl)); go_simp; try go_bits)
        refine sched_end ?_
        go_wp2
        go_roundg 0
        case measure => omega
        case rel =>
          refine ⟨⟨_, rfl, .inr (.inr (.inr (.inr (⟨rfl, ?_, rfl⟩))))⟩, ⟨p4, p5⟩, bp.drew.drew⟩
          have hx := Hx.out; clear Hx
          subst hx
          clear xl
          unfold farC farZ; omega
    · go_wp2
      go_ret
      exact ⟨rfl, bp⟩
end Go.Proofs.Ytnladfpckejogaa
