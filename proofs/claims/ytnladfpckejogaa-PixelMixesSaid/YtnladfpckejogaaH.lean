/- Walks: what the document says of colours over others, and between others. -/
import Derived.Test.YtnladfpckejogaaG
namespace Go.Proofs.Ytnladfpckejogaa
open Go.RowKit Go.Shelf
attribute [local go_sem] Oper.semAt_some

/-- a share's two products, its bounds, and what it is -/
theorem shareW {x y p : Int} (hx : By x) (hy : By y) (hp : By p) : (0 ≤ y * p ∧ y * p ≤ 65025 ∧ 0 ≤ x * (255 - p) ∧ x * (255 - p) ≤ 65025) ∧ By ((y * p + x * (255 - p) + 127) / 255) ∧ (y * p + x * (255 - p) + 127) / 255 = shareZ x y p := by
  obtain ⟨x0, x1⟩ := hx; obtain ⟨y0, y1⟩ := hy; obtain ⟨p0, p1⟩ := hp
  have m1 := Int.mul_nonneg x0 (show 0 ≤ 255 - p by omega)
  have m2 := Int.mul_nonneg y0 p0
  have m3 := Int.mul_le_mul_of_nonneg_right x1 (show 0 ≤ 255 - p by omega)
  have m4 := Int.mul_le_mul_of_nonneg_right y1 p0
  unfold By shareZ
  refine ⟨⟨m2, by omega, m1, by omega⟩, ?_, ?_⟩ <;> omega
/-- the parts of what covers -/
theorem shareV {x p : Int} (hx : By x) (hp : By p) : ((0 ≤ x * (255 - p) ∧ x * (255 - p) ≤ 65025) ∧ By (p + (x * (255 - p) + 127) / 255)) ∧ p + (x * (255 - p) + 127) / 255 = (p + shareZ x 0 p) % 256 := by
  obtain ⟨x0, x1⟩ := hx; obtain ⟨p0, p1⟩ := hp
  have m1 := Int.mul_nonneg x0 (show 0 ≤ 255 - p by omega)
  have m3 := Int.mul_le_mul_of_nonneg_right x1 (show 0 ≤ 255 - p by omega)
  unfold By shareZ
  refine ⟨⟨⟨m1, by omega⟩, ?_⟩, ?_⟩ <;> omega

set_option maxRecDepth 100000 in
set_option maxHeartbeats 1000000 in
theorem rover_any (r g b a r' g' b' a' : Int) (w : World) (hr : By r) (hg : By g) (hb : By b) (ha : By a) (hr' : By r') (hg' : By g') (hb' : By b') (ha' : By a') :
    Calls Try.prog 27 #[.agg #[.int .u8 r, .int .u8 g, .int .u8 b, .int .u8 a], .agg #[.int .u8 r', .int .u8 g', .int .u8 b', .int .u8 a']] w fun e w' =>
      e = .returned (.agg #[.int .u8 (shareZ r r' a'), .int .u8 (shareZ g g' a'), .int .u8 (shareZ b b' a'), .int .u8 ((a' + shareZ a 0 a') % 256)]) ∧ Below w.heap.size w w' := by
  go_enter Try.func27, Try.ntmps27
  go_wp2_with (fail)
  generalize hW0 : World.alloc _ _ = W0
  have b0 : Below w.heap.size w W0 := by rw [← hW0]; exact (((Below.refl _ _).alloc (by simp) _).alloc (by simp) _).alloc (by simp; omega) _
  have h0 : Has W0 w.heap.size (.cells #[.int .u8 r, .int .u8 g, .int .u8 b, .int .u8 a] 27 (0, 0)) := by rw [← hW0]; exact ((Has.new' (by simp)).alloc _).alloc _
  have h1 : Has W0 (w.heap.size + 1) (.cells #[.int .u8 r', .int .u8 g', .int .u8 b', .int .u8 a'] 27 (0, 0)) := by rw [← hW0]; exact (Has.new' (by simp)).alloc _
  have h2 : Has W0 (w.heap.size + 1 + 1) (.cells #[.int .u8 0, .int .u8 0, .int .u8 0, .int .u8 0] 27 (0, 0)) := by rw [← hW0]; exact Has.new' (by simp)
  clear hW0
  refine wp_region_fresh 6 [(6, true), (7, true)]
    [(fun _ => .agg #[.int .u8 r, .int .u8 g, .int .u8 b, .int .u8 a], none), (fun _ => .agg #[.int .i64 r, .int .i64 g, .int .i64 b, .int .i64 a], none),
     (fun _ => .agg #[.int .u8 r', .int .u8 g', .int .u8 b', .int .u8 a'], none), (fun _ => .agg #[.int .i64 r', .int .i64 g', .int .i64 b', .int .i64 a'], none),
     (fun b => .pointer (some ⟨b, 0, none⟩), some (.cells #[.int .i64 0, .int .i64 0, .int .i64 0, .int .i64 0] 61 (0, 0))),
     (fun b => .pointer (some ⟨b, 0, none⟩), some (.cells #[.int .i64 0, .int .i64 0, .int .i64 0, .int .i64 0] 61 (0, 0)))] (fun _ _ => True) (by kernel_rfl) (by kernel_rfl) rfl ?_
  intro z
  have L0 : ∀ {w'}, Below W0.drew.heap.size W0.drew w' → w'.cell? ⟨w.heap.size, 0, none⟩ = some (.int .u8 r) ∧ w'.cell? ⟨w.heap.size, 1, none⟩ = some (.int .u8 g) ∧ w'.cell? ⟨w.heap.size, 2, none⟩ = some (.int .u8 b) ∧ w'.cell? ⟨w.heap.size, 3, none⟩ = some (.int .u8 a) := fun hB => (h0.drew.below hB h0.lt).four
  have L1 : ∀ {w'}, Below W0.drew.heap.size W0.drew w' → w'.cell? ⟨w.heap.size + 1, 0, none⟩ = some (.int .u8 r') ∧ w'.cell? ⟨w.heap.size + 1, 1, none⟩ = some (.int .u8 g') ∧ w'.cell? ⟨w.heap.size + 1, 2, none⟩ = some (.int .u8 b') ∧ w'.cell? ⟨w.heap.size + 1, 3, none⟩ = some (.int .u8 a') := fun hB => (h1.drew.below hB h1.lt).four
  refine fresh_pure rfl rfl (fun w' hB => ?_) ?_
  · have l0 := L0 hB
    go_simp
  refine fresh_call rfl rfl (fun w' hB _ => ?_) (fun w' _ _ => rparts_any _ _ _ _ _ hr hg hb ha) ?_
  · go_simp
  refine fresh_pure rfl rfl (fun w' hB => ?_) ?_
  · have l1 := L1 hB
    go_simp
  refine fresh_call rfl rfl (fun w' hB _ => ?_) (fun w' _ _ => rparts_any _ _ _ _ _ hr' hg' hb' ha') ?_
  · go_simp
  refine fresh_new rfl rfl (fun w' => ?_) ?_
  · go_simp
  refine fresh_new rfl rfl (fun w' => ?_) ?_
  · go_simp
  refine fresh_end fun V hB hA hD => ⟨trivial, ?_⟩
  obtain ⟨z4, k4⟩ := hA 4 _ _ rfl
  obtain ⟨z5, k5⟩ := hA 5 _ _ rfl
  have zn := hD 4 5 _ _ _ _ (by omega) rfl rfl
  go_simp
  have bV : Below w.heap.size w V := b0.drew.trans (hB.mono b0.drew.size)
  have sz := b0.drew.size
  have l2 := h2.drew.below hB h2.drew.lt
  have zl4 := z4
  have zl5 := z5
  have hlt := h2.lt
  have f4 := k4.free4
  have e4 := k4.four
  refine sched_act rfl rfl ?_
  go_simp
  have q4 := k4.put4 (.int .i64 r) (.int .i64 g) (.int .i64 b) (.int .i64 a)
  have q5 := k5.put4_other (r := z 4) (.int .i64 r) (.int .i64 g) (.int .i64 b) (.int .i64 a) (Ne.symm zn)
  have bq := below_put4 bV (r := z 4) (Nat.le_trans sz z4) (.int .i64 r) (.int .i64 g) (.int .i64 b) (.int .i64 a)
  have l2 := l2.put4_other (r := z 4) (.int .i64 r) (.int .i64 g) (.int .i64 b) (.int .i64 a) (by have : W0.drew.heap.size = W0.heap.size := rfl; omega)
  unfold w4 at q4 q5 bq l2
  generalize hY : World.setCell _ _ _ = Y at *
  have f5 := q5.free4
  have e5 := q5.four
  clear hY k4 k5 f4 e4 bV hB
  refine sched_act rfl rfl ?_
  go_simp
  have p5 := q5.put4 (.int .i64 r') (.int .i64 g') (.int .i64 b') (.int .i64 a')
  have p4 := q4.put4_other (r := z 5) (.int .i64 r') (.int .i64 g') (.int .i64 b') (.int .i64 a') zn
  have bp := below_put4 bq (r := z 5) (Nat.le_trans sz z5) (.int .i64 r') (.int .i64 g') (.int .i64 b') (.int .i64 a')
  have l2 := l2.put4_other (r := z 5) (.int .i64 r') (.int .i64 g') (.int .i64 b') (.int .i64 a') (by have : W0.drew.heap.size = W0.heap.size := rfl; omega)
  unfold w4 at p4 p5 bp l2
  generalize hZ : World.setCell _ _ _ = Z at *
  have c4 := p4.four
  have c5 := p5.four
  clear hZ q4 q5 f5 e5 bq hA hD
  refine sched_end ?_
  clear z4 z5 sz zl4 zl5 hlt h2 h0 h1 L0 L1
  have k1 := ha'.1
  have k2 := ha'.2
  obtain ⟨e0, B0, F0⟩ := shareW hr hr' ha'
  obtain ⟨e1, B1, F1⟩ := shareW hg hg' ha'
  obtain ⟨e2, B2, F2⟩ := shareW hb hb' ha'
  obtain ⟨⟨e3, B3⟩, F3⟩ := shareV ha ha'
  have F := Lib.hid (And.intro F0 (And.intro F1 (And.intro F2 F3)))
  have B := Lib.hid (And.intro B0 (And.intro B1 (And.intro B2 B3)))
  clear F0 F1 F2 F3 B0 B1 B2 B3 hr hr' hg hg' hb hb' ha ha'
  go_wp2_with (fail)
  refine (rof_any _ _ _ _ _ B.out.1 B.out.2.1 B.out.2.2.1 B.out.2.2.2).mono ?_
  rintro e w2 ⟨he, hb2⟩
  obtain ⟨F0, F1, F2, F3⟩ := F.out
  rw [F0, F1, F2, F3] at he
  subst he
  clear F F0 F1 F2 F3 B e0 e1 e2 e3 k1 k2
  have l3 := l2.below hb2 l2.lt
  have bb := bp.trans (hb2.mono bp.size)
  have c4 := l3.four
  have f4 := l3.free4
  clear c5
  go_wp2_with (fail)
  have q := l3.put4 (.int .u8 (shareZ r r' a')) (.int .u8 (shareZ g g' a')) (.int .u8 (shareZ b b' a')) (.int .u8 ((a' + shareZ a 0 a') % 256))
  have bq := below_put4 bb (r := w.heap.size + 1 + 1) (by omega) (.int .u8 (shareZ r r' a')) (.int .u8 (shareZ g g' a')) (.int .u8 (shareZ b b' a')) (.int .u8 ((a' + shareZ a 0 a') % 256))
  unfold w4 at q bq
  generalize hY : World.setCell _ _ _ = Y at *
  have q4 := q.four
  exact bodyPost_ret (v := .agg #[.int .u8 (shareZ r r' a'), .int .u8 (shareZ g g' a'), .int .u8 (shareZ b b' a'), .int .u8 ((a' + shareZ a 0 a') % 256)]) (by simp [results, Try.f27, go_sem, q4]) rfl ⟨rfl, bq⟩

/-- how far a mix is -/
def MixSt (r g b a r' g' b' a' p : Int) (q n : Nat) (i : Value) (W : World) : Prop :=
  (n = 4 ∧ i = .int .i64 0 ∧ Has W q (.cells #[.int .i64 0, .int .i64 0, .int .i64 0, .int .i64 0] 61 (0, 0))) ∨ (n = 3 ∧ i = .int .i64 1 ∧ Has W q (.cells #[.int .i64 (shareZ r r' p), .int .i64 0, .int .i64 0, .int .i64 0] 61 (0, 0))) ∨ (n = 2 ∧ i = .int .i64 2 ∧ Has W q (.cells #[.int .i64 (shareZ r r' p), .int .i64 (shareZ g g' p), .int .i64 0, .int .i64 0] 61 (0, 0))) ∨ (n = 1 ∧ i = .int .i64 3 ∧ Has W q (.cells #[.int .i64 (shareZ r r' p), .int .i64 (shareZ g g' p), .int .i64 (shareZ b b' p), .int .i64 0] 61 (0, 0))) ∨ (n = 0 ∧ i = .int .i64 4 ∧ Has W q (.cells #[.int .i64 (shareZ r r' p), .int .i64 (shareZ g g' p), .int .i64 (shareZ b b' p), .int .i64 (shareZ a a' p)] 61 (0, 0)))
/-- a share's two products and its bounds -/
theorem shareM {x y p : Int} (hx : By x) (hy : By y) (hp : By p) : (0 ≤ y * p ∧ y * p ≤ 65025 ∧ 0 ≤ x * (255 - p) ∧ x * (255 - p) ≤ 65025) ∧ By (shareZ x y p) := by
  obtain ⟨h, _, _⟩ := shareW hx hy hp
  exact ⟨h, shareZ_lo hx.1 hy.1 hp.1 hp.2, shareZ_hi hx.2 hy.2 hp.1 hp.2⟩

set_option maxRecDepth 100000 in
set_option maxHeartbeats 2000000 in
theorem rmix_any (r g b a r' g' b' a' p : Int) (w : World) (hr : By r) (hg : By g) (hb : By b) (ha : By a) (hr' : By r') (hg' : By g') (hb' : By b') (ha' : By a') (hp : By p) :
    Calls Try.prog 28 #[.agg #[.int .u8 r, .int .u8 g, .int .u8 b, .int .u8 a], .agg #[.int .u8 r', .int .u8 g', .int .u8 b', .int .u8 a'], .int .u8 p] w fun e w' =>
      e = .returned (.agg #[.int .u8 (shareZ r r' p), .int .u8 (shareZ g g' p), .int .u8 (shareZ b b' p), .int .u8 (shareZ a a' p)]) ∧ Below w.heap.size w w' := by
  go_enter Try.func28, Try.ntmps28
  go_wp2_with (fail)
  generalize hW0 : World.alloc _ _ = W0
  have b0 : Below w.heap.size w W0 := by rw [← hW0]; exact (((Below.refl _ _).alloc (by simp) _).alloc (by simp) _).alloc (by simp; omega) _
  have h0 : Has W0 w.heap.size (.cells #[.int .u8 r, .int .u8 g, .int .u8 b, .int .u8 a] 27 (0, 0)) := by rw [← hW0]; exact ((Has.new' (by simp)).alloc _).alloc _
  have h1 : Has W0 (w.heap.size + 1) (.cells #[.int .u8 r', .int .u8 g', .int .u8 b', .int .u8 a'] 27 (0, 0)) := by rw [← hW0]; exact (Has.new' (by simp)).alloc _
  have h2 : Has W0 (w.heap.size + 1 + 1) (.cells #[.int .u8 0, .int .u8 0, .int .u8 0, .int .u8 0] 27 (0, 0)) := by rw [← hW0]; exact Has.new' (by simp)
  clear hW0
  refine wp_region_fresh 6 [(6, true), (7, true)]
    [(fun _ => .agg #[.int .u8 r, .int .u8 g, .int .u8 b, .int .u8 a], none), (fun _ => .agg #[.int .i64 r, .int .i64 g, .int .i64 b, .int .i64 a], none),
     (fun _ => .agg #[.int .u8 r', .int .u8 g', .int .u8 b', .int .u8 a'], none), (fun _ => .agg #[.int .i64 r', .int .i64 g', .int .i64 b', .int .i64 a'], none),
     (fun b => .pointer (some ⟨b, 0, none⟩), some (.cells #[.int .i64 0, .int .i64 0, .int .i64 0, .int .i64 0] 61 (0, 0))),
     (fun b => .pointer (some ⟨b, 0, none⟩), some (.cells #[.int .i64 0, .int .i64 0, .int .i64 0, .int .i64 0] 61 (0, 0)))] (fun _ _ => True) (by kernel_rfl) (by kernel_rfl) rfl ?_
  intro z
  have L0 : ∀ {w'}, Below W0.drew.heap.size W0.drew w' → w'.cell? ⟨w.heap.size, 0, none⟩ = some (.int .u8 r) ∧ w'.cell? ⟨w.heap.size, 1, none⟩ = some (.int .u8 g) ∧ w'.cell? ⟨w.heap.size, 2, none⟩ = some (.int .u8 b) ∧ w'.cell? ⟨w.heap.size, 3, none⟩ = some (.int .u8 a) := fun hB => (h0.drew.below hB h0.lt).four
  have L1 : ∀ {w'}, Below W0.drew.heap.size W0.drew w' → w'.cell? ⟨w.heap.size + 1, 0, none⟩ = some (.int .u8 r') ∧ w'.cell? ⟨w.heap.size + 1, 1, none⟩ = some (.int .u8 g') ∧ w'.cell? ⟨w.heap.size + 1, 2, none⟩ = some (.int .u8 b') ∧ w'.cell? ⟨w.heap.size + 1, 3, none⟩ = some (.int .u8 a') := fun hB => (h1.drew.below hB h1.lt).four
  refine fresh_pure rfl rfl (fun w' hB => ?_) ?_
  · have l0 := L0 hB
    go_simp
  refine fresh_call rfl rfl (fun w' hB _ => ?_) (fun w' _ _ => rparts_any _ _ _ _ _ hr hg hb ha) ?_
  · go_simp
  refine fresh_pure rfl rfl (fun w' hB => ?_) ?_
  · have l1 := L1 hB
    go_simp
  refine fresh_call rfl rfl (fun w' hB _ => ?_) (fun w' _ _ => rparts_any _ _ _ _ _ hr' hg' hb' ha') ?_
  · go_simp
  refine fresh_new rfl rfl (fun w' => ?_) ?_
  · go_simp
  refine fresh_new rfl rfl (fun w' => ?_) ?_
  · go_simp
  refine fresh_end fun V hB hA hD => ⟨trivial, ?_⟩
  obtain ⟨z4, k4⟩ := hA 4 _ _ rfl
  obtain ⟨z5, k5⟩ := hA 5 _ _ rfl
  have zn := hD 4 5 _ _ _ _ (by omega) rfl rfl
  go_simp
  have bV : Below w.heap.size w V := b0.drew.trans (hB.mono b0.drew.size)
  have sz := b0.drew.size
  have l2 := h2.drew.below hB h2.drew.lt
  have zl4 := z4
  have zl5 := z5
  have hlt := h2.lt
  have f4 := k4.free4
  have e4 := k4.four
  refine sched_act rfl rfl ?_
  go_simp
  have q4 := k4.put4 (.int .i64 r) (.int .i64 g) (.int .i64 b) (.int .i64 a)
  have q5 := k5.put4_other (r := z 4) (.int .i64 r) (.int .i64 g) (.int .i64 b) (.int .i64 a) (Ne.symm zn)
  have bq := below_put4 bV (r := z 4) (Nat.le_trans sz z4) (.int .i64 r) (.int .i64 g) (.int .i64 b) (.int .i64 a)
  have l2 := l2.put4_other (r := z 4) (.int .i64 r) (.int .i64 g) (.int .i64 b) (.int .i64 a) (by have : W0.drew.heap.size = W0.heap.size := rfl; omega)
  unfold w4 at q4 q5 bq l2
  generalize hY : World.setCell _ _ _ = Y at *
  have f5 := q5.free4
  have e5 := q5.four
  clear hY k4 k5 f4 e4 bV hB
  refine sched_act rfl rfl ?_
  go_simp
  have p5 := q5.put4 (.int .i64 r') (.int .i64 g') (.int .i64 b') (.int .i64 a')
  have p4 := q4.put4_other (r := z 5) (.int .i64 r') (.int .i64 g') (.int .i64 b') (.int .i64 a') zn
  have bp := below_put4 bq (r := z 5) (Nat.le_trans sz z5) (.int .i64 r') (.int .i64 g') (.int .i64 b') (.int .i64 a')
  have l2 := l2.put4_other (r := z 5) (.int .i64 r') (.int .i64 g') (.int .i64 b') (.int .i64 a') (by have : W0.drew.heap.size = W0.heap.size := rfl; omega)
  unfold w4 at p4 p5 bp l2
  generalize hZ : World.setCell _ _ _ = Z at *
  have c4 := p4.four
  have c5 := p5.four
  clear hZ q4 q5 f5 e5 bq hA hD
  refine sched_end ?_
  clear z4 z5 sz zl4 zl5 hlt h2 h0 h1 L0 L1
  have k1 := hp.1
  have k2 := hp.2
  obtain ⟨e0, B0⟩ := shareM hr hr' hp
  obtain ⟨e1, B1⟩ := shareM hg hg' hp
  obtain ⟨e2, B2⟩ := shareM hb hb' hp
  obtain ⟨e3, B3⟩ := shareM ha ha' hp
  have E := Lib.hid (And.intro e0 (And.intro e1 (And.intro e2 e3)))
  have B := Lib.hid (And.intro B0 (And.intro B1 (And.intro B2 B3)))
  have C := Lib.hid (And.intro c4 c5)
  have zs := p4.lt
  have zt := p5.lt
  have bs := bp.size
  have lt2 := l2.lt
  have Hz := Lib.hid (And.intro zs (And.intro zt (And.intro bs lt2)))
  clear B0 B1 B2 B3 e0 e1 e2 e3 hr hr' hg hg' hb hb' ha ha' c4 c5 hp zs zt bs lt2
  go_wp2_with (fail)
  have h4 : Has (Z.alloc (.cells #[.int .i64 0, .int .i64 0, .int .i64 0, .int .i64 0] 61 (0, 0))) Z.heap.size (.cells #[.int .i64 0, .int .i64 0, .int .i64 0, .int .i64 0] 61 (0, 0)) := Has.new' rfl
  have ht := (⟨⟨p4.alloc (.cells #[.int .i64 0, .int .i64 0, .int .i64 0, .int .i64 0] 61 (0, 0)), p5.alloc _⟩, l2.alloc _, bp.alloc Hz.out.2.2.1 _⟩ : TwoParts r g b a r' g' b' a' (z 4) (z 5) (Z.alloc (.cells #[.int .i64 0, .int .i64 0, .int .i64 0, .int .i64 0] 61 (0, 0))) ∧ Has (Z.alloc (.cells #[.int .i64 0, .int .i64 0, .int .i64 0, .int .i64 0] 61 (0, 0))) (w.heap.size + 1 + 1) (.cells #[.int .u8 0, .int .u8 0, .int .u8 0, .int .u8 0] 27 (0, 0)) ∧ Below w.heap.size w (Z.alloc (.cells #[.int .i64 0, .int .i64 0, .int .i64 0, .int .i64 0] 61 (0, 0))))
  clear p4 p5 bp b0 zn
  go_loopg [18] 4 (fun n i wr => MixSt r g b a r' g' b' a' p Z.heap.size n i wr ∧ TwoParts r g b a r' g' b' a' (z 4) (z 5) wr ∧ Has wr (w.heap.size + 1 + 1) (.cells #[.int .u8 0, .int .u8 0, .int .u8 0, .int .u8 0] 27 (0, 0)) ∧ Below w.heap.size w wr)
  case atStart => exact ⟨.inl ⟨rfl, rfl, h4⟩, ht⟩
  case round =>
    obtain ⟨hx, ⟨p4, p5⟩, j2, bp⟩ := hrel
    clear ht h4 C l2
    have c4 := p4.four
    have c5 := p5.four
    rcases hx with ⟨rfl, rfl, hx⟩ | ⟨rfl, rfl, hx⟩ | ⟨rfl, rfl, hx⟩ | ⟨rfl, rfl, hx⟩ | ⟨rfl, rfl, hx⟩
    · have e := E.out.1
      have d := hx.cell 0
      have f := hx.free 0
      have hk : ∀ V : World, (wr.setCell ⟨Z.heap.size, 0, none⟩ (.int .i64 ((r * (255 - p) + r' * p + 127) / 255))).drew = V → MixSt r g b a r' g' b' a' p Z.heap.size 3 (.int .i64 1) V ∧ TwoParts r g b a r' g' b' a' (z 4) (z 5) V ∧ Has V (w.heap.size + 1 + 1) (.cells #[.int .u8 0, .int .u8 0, .int .u8 0, .int .u8 0] 27 (0, 0)) ∧ Below w.heap.size w V := by
        rintro V rfl
        exact ⟨.inr (.inl ⟨rfl, rfl, (hx.set 0 (.int .i64 ((r * (255 - p) + r' * p + 127) / 255))).drew⟩), ⟨(p4.other (a := ⟨Z.heap.size, 0, none⟩) _ (Nat.ne_of_lt Hz.out.1)).drew, (p5.other (a := ⟨Z.heap.size, 0, none⟩) _ (Nat.ne_of_lt Hz.out.2.1)).drew⟩, (j2.other (a := ⟨Z.heap.size, 0, none⟩) _ (Nat.ne_of_lt Hz.out.2.2.2)).drew, (bp.setCell (p := ⟨Z.heap.size, 0, none⟩) Hz.out.2.2.1 _).drew⟩
      have H := Lib.hid hk; clear hk hx j2 bp
      go_wp2
      refine wp_region_sched [(0, false), (1, false), (2, false), (3, false), (4, false), (5, false), (6, false), (7, false), (8, false), (9, false), (10, false), (11, false), (12, false), (13, false), (14, false), (15, false), (16, true)] (fun Y => TwoParts r g b a r' g' b' a' (z 4) (z 5) Y) (by kernel_rfl) (by kernel_rfl) ⟨p4.drew, p5.drew⟩ ?_
      repeat (refine sched_pure (v := ?_) rfl rfl ?_ ?_; rotate_left; (focus (intro Y hY; have hY := And.intro hY.1.four hY.2.four; go_simp; try with_reducible rfl)); go_simp; try go_bits)
      refine sched_act rfl rfl ?_
      go_simp
      refine ⟨(H.out _ rfl).2.1, sched_end ?_⟩
      generalize hV : World.drew _ = V
      have H := Lib.hid (H.out V hV)
      clear hV
      go_wp2
      go_roundg 3
      case measure => omega
      case rel => exact H.out
    · have e := E.out.2.1
      have d := hx.cell 1
      have f := hx.free 1
      have hk : ∀ V : World, (wr.setCell ⟨Z.heap.size, 1, none⟩ (.int .i64 ((g * (255 - p) + g' * p + 127) / 255))).drew = V → MixSt r g b a r' g' b' a' p Z.heap.size 2 (.int .i64 2) V ∧ TwoParts r g b a r' g' b' a' (z 4) (z 5) V ∧ Has V (w.heap.size + 1 + 1) (.cells #[.int .u8 0, .int .u8 0, .int .u8 0, .int .u8 0] 27 (0, 0)) ∧ Below w.heap.size w V := by
        rintro V rfl
        exact ⟨.inr (.inr (.inl ⟨rfl, rfl, (hx.set 1 (.int .i64 ((g * (255 - p) + g' * p + 127) / 255))).drew⟩)), ⟨(p4.other (a := ⟨Z.heap.size, 1, none⟩) _ (Nat.ne_of_lt Hz.out.1)).drew, (p5.other (a := ⟨Z.heap.size, 1, none⟩) _ (Nat.ne_of_lt Hz.out.2.1)).drew⟩, (j2.other (a := ⟨Z.heap.size, 1, none⟩) _ (Nat.ne_of_lt Hz.out.2.2.2)).drew, (bp.setCell (p := ⟨Z.heap.size, 1, none⟩) Hz.out.2.2.1 _).drew⟩
      have H := Lib.hid hk; clear hk hx j2 bp
      go_wp2
      refine wp_region_sched [(0, false), (1, false), (2, false), (3, false), (4, false), (5, false), (6, false), (7, false), (8, false), (9, false), (10, false), (11, false), (12, false), (13, false), (14, false), (15, false), (16, true)] (fun Y => TwoParts r g b a r' g' b' a' (z 4) (z 5) Y) (by kernel_rfl) (by kernel_rfl) ⟨p4.drew, p5.drew⟩ ?_
      repeat (refine sched_pure (v := ?_) rfl rfl ?_ ?_; rotate_left; (focus (intro Y hY; have hY := And.intro hY.1.four hY.2.four; go_simp; try with_reducible rfl)); go_simp; try go_bits)
      refine sched_act rfl rfl ?_
      go_simp
      refine ⟨(H.out _ rfl).2.1, sched_end ?_⟩
      generalize hV : World.drew _ = V
      have H := Lib.hid (H.out V hV)
      clear hV
      go_wp2
      go_roundg 2
      case measure => omega
      case rel => exact H.out
    · have e := E.out.2.2.1
      have d := hx.cell 2
      have f := hx.free 2
      have hk : ∀ V : World, (wr.setCell ⟨Z.heap.size, 2, none⟩ (.int .i64 ((b * (255 - p) + b' * p + 127) / 255))).drew = V → MixSt r g b a r' g' b' a' p Z.heap.size 1 (.int .i64 3) V ∧ TwoParts r g b a r' g' b' a' (z 4) (z 5) V ∧ Has V (w.heap.size + 1 + 1) (.cells #[.int .u8 0, .int .u8 0, .int .u8 0, .int .u8 0] 27 (0, 0)) ∧ Below w.heap.size w V := by
        rintro V rfl
        exact ⟨.inr (.inr (.inr (.inl ⟨rfl, rfl, (hx.set 2 (.int .i64 ((b * (255 - p) + b' * p + 127) / 255))).drew⟩))), ⟨(p4.other (a := ⟨Z.heap.size, 2, none⟩) _ (Nat.ne_of_lt Hz.out.1)).drew, (p5.other (a := ⟨Z.heap.size, 2, none⟩) _ (Nat.ne_of_lt Hz.out.2.1)).drew⟩, (j2.other (a := ⟨Z.heap.size, 2, none⟩) _ (Nat.ne_of_lt Hz.out.2.2.2)).drew, (bp.setCell (p := ⟨Z.heap.size, 2, none⟩) Hz.out.2.2.1 _).drew⟩
      have H := Lib.hid hk; clear hk hx j2 bp
      go_wp2
      refine wp_region_sched [(0, false), (1, false), (2, false), (3, false), (4, false), (5, false), (6, false), (7, false), (8, false), (9, false), (10, false), (11, false), (12, false), (13, false), (14, false), (15, false), (16, true)] (fun Y => TwoParts r g b a r' g' b' a' (z 4) (z 5) Y) (by kernel_rfl) (by kernel_rfl) ⟨p4.drew, p5.drew⟩ ?_
      repeat (refine sched_pure (v := ?_) rfl rfl ?_ ?_; rotate_left; (focus (intro Y hY; have hY := And.intro hY.1.four hY.2.four; go_simp; try with_reducible rfl)); go_simp; try go_bits)
      refine sched_act rfl rfl ?_
      go_simp
      refine ⟨(H.out _ rfl).2.1, sched_end ?_⟩
      generalize hV : World.drew _ = V
      have H := Lib.hid (H.out V hV)
      clear hV
      go_wp2
      go_roundg 1
      case measure => omega
      case rel => exact H.out
    · have e := E.out.2.2.2
      have d := hx.cell 3
      have f := hx.free 3
      have hk : ∀ V : World, (wr.setCell ⟨Z.heap.size, 3, none⟩ (.int .i64 ((a * (255 - p) + a' * p + 127) / 255))).drew = V → MixSt r g b a r' g' b' a' p Z.heap.size 0 (.int .i64 4) V ∧ TwoParts r g b a r' g' b' a' (z 4) (z 5) V ∧ Has V (w.heap.size + 1 + 1) (.cells #[.int .u8 0, .int .u8 0, .int .u8 0, .int .u8 0] 27 (0, 0)) ∧ Below w.heap.size w V := by
        rintro V rfl
        exact ⟨.inr (.inr (.inr (.inr (⟨rfl, rfl, (hx.set 3 (.int .i64 ((a * (255 - p) + a' * p + 127) / 255))).drew⟩)))), ⟨(p4.other (a := ⟨Z.heap.size, 3, none⟩) _ (Nat.ne_of_lt Hz.out.1)).drew, (p5.other (a := ⟨Z.heap.size, 3, none⟩) _ (Nat.ne_of_lt Hz.out.2.1)).drew⟩, (j2.other (a := ⟨Z.heap.size, 3, none⟩) _ (Nat.ne_of_lt Hz.out.2.2.2)).drew, (bp.setCell (p := ⟨Z.heap.size, 3, none⟩) Hz.out.2.2.1 _).drew⟩
      have H := Lib.hid hk; clear hk hx j2 bp
      go_wp2
      refine wp_region_sched [(0, false), (1, false), (2, false), (3, false), (4, false), (5, false), (6, false), (7, false), (8, false), (9, false), (10, false), (11, false), (12, false), (13, false), (14, false), (15, false), (16, true)] (fun Y => TwoParts r g b a r' g' b' a' (z 4) (z 5) Y) (by kernel_rfl) (by kernel_rfl) ⟨p4.drew, p5.drew⟩ ?_
      repeat (refine sched_pure (v := ?_) rfl rfl ?_ ?_; rotate_left; (focus (intro Y hY; have hY := And.intro hY.1.four hY.2.four; go_simp; try with_reducible rfl)); go_simp; try go_bits)
      refine sched_act rfl rfl ?_
      go_simp
      refine ⟨(H.out _ rfl).2.1, sched_end ?_⟩
      generalize hV : World.drew _ = V
      have H := Lib.hid (H.out V hV)
      clear hV
      go_wp2
      go_roundg 0
      case measure => omega
      case rel => exact H.out
    · have d := hx.four
      clear c4 c5 p4 p5 hx
      have Hb := Lib.hid bp; clear bp
      go_wp2_with (fail)
      refine (rof_any _ _ _ _ _ B.out.1 B.out.2.1 B.out.2.2.1 B.out.2.2.2).mono ?_
      rintro e w2 ⟨rfl, hb2⟩
      have l3 := j2.below hb2 j2.lt
      have bb := Hb.out.trans (hb2.mono Hb.out.size)
      have c4 := l3.four
      have f4 := l3.free4
      go_wp2_with (fail)
      have q := l3.put4 (.int .u8 (shareZ r r' p)) (.int .u8 (shareZ g g' p)) (.int .u8 (shareZ b b' p)) (.int .u8 (shareZ a a' p))
      have bq := below_put4 bb (r := w.heap.size + 1 + 1) (by omega) (.int .u8 (shareZ r r' p)) (.int .u8 (shareZ g g' p)) (.int .u8 (shareZ b b' p)) (.int .u8 (shareZ a a' p))
      unfold w4 at q bq
      generalize hY : World.setCell _ _ _ = Y at *
      have q4 := q.four
      exact bodyPost_ret (v := .agg #[.int .u8 (shareZ r r' p), .int .u8 (shareZ g g' p), .int .u8 (shareZ b b' p), .int .u8 (shareZ a a' p)]) (by simp [results, Try.f28, go_sem, q4]) rfl ⟨rfl, bq⟩
end Go.Proofs.Ytnladfpckejogaa
