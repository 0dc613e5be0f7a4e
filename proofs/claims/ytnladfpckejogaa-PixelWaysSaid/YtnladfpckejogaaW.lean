/- How far colours are apart is the same both ways. -/
import Derived.Test.YtnladfpckejogaaN
namespace Go.Proofs.Ytnladfpckejogaa
open Go.RowKit Go.Shelf
attribute [local go_sem] Oper.semAt_some
attribute [local go_sem 2000] run_col
attribute [local go_sem] colB_self

theorem farZ_comm (x y : Int) : farZ y x = farZ x y := by unfold farZ; omega
theorem farZ_lo (x y : Int) : 0 ≤ farZ x y := by unfold farZ; omega
theorem farZ_zero (x y : Int) : farZ x y = 0 ↔ x = y := by unfold farZ; omega
theorem farZ_three (x y z : Int) : farZ x z ≤ farZ x y + farZ y z := by unfold farZ; omega
theorem far_comm (r g b a r' g' b' a' : Int) : farC r' g' b' a' r g b a = farC r g b a r' g' b' a' := by unfold farC; rw [farZ_comm r, farZ_comm g, farZ_comm b, farZ_comm a]
theorem far_zero (r g b a r' g' b' a' : Int) : (farC r g b a r' g' b' a' == 0) = colB r g b a r' g' b' a' := by
  rw [Bool.eq_iff_iff, beq_iff_eq]
  unfold colB
  rw [decide_eq_true_iff]
  unfold farC
  have l0 := farZ_lo r r'
  have l1 := farZ_lo g g'
  have l2 := farZ_lo b b'
  have l3 := farZ_lo a a'
  rw [← farZ_zero r r', ← farZ_zero g g', ← farZ_zero b b', ← farZ_zero a a']
  omega
theorem far_three (r g b a r' g' b' a' r2 g2 b2 a2 : Int) : farC r g b a r2 g2 b2 a2 ≤ farC r g b a r' g' b' a' + farC r' g' b' a' r2 g2 b2 a2 := by
  unfold farC
  have l0 := farZ_three r r' r2
  have l1 := farZ_three g g' g2
  have l2 := farZ_three b b' b2
  have l3 := farZ_three a a' a2
  omega
theorem far_self (r g b a : Int) : farC r g b a r g b a = 0 := by unfold farC farZ; omega
theorem colRow_nil {W : World} : ColRow W none [] := ⟨by simp [maxLen], fun i c hi => by simp at hi, fun c hc => by simp at hc⟩
theorem colRow_three {W : World} {r : Nat} {a0 a1 a2 a3 b0 b1 b2 b3 c0 c1 c2 c3 : Int} {T : TypeId} {z : Nat × Nat} (h : Has W r (.cells #[.int .u8 a0, .int .u8 a1, .int .u8 a2, .int .u8 a3, .int .u8 b0, .int .u8 b1, .int .u8 b2, .int .u8 b3, .int .u8 c0, .int .u8 c1, .int .u8 c2, .int .u8 c3] T z))
    (ha : ByC (a0, a1, a2, a3)) (hb : ByC (b0, b1, b2, b3)) (hc : ByC (c0, c1, c2, c3)) : ColRow W (some ⟨r, 0, none⟩) [(a0, a1, a2, a3), (b0, b1, b2, b3), (c0, c1, c2, c3)] := by
  refine ⟨by simp [maxLen], fun i c hi => ?_, fun c hc => ?_⟩
  · match i, hi with
    | 0, hi => cases hi; exact ⟨_, rfl, h.cell 0, h.cell 1, h.cell 2, h.cell 3⟩
    | 1, hi => cases hi; exact ⟨_, rfl, h.cell 4, h.cell 5, h.cell 6, h.cell 7⟩
    | 2, hi => cases hi; exact ⟨_, rfl, h.cell 8, h.cell 9, h.cell 10, h.cell 11⟩
    | i + 3, hi => simp at hi
  · simp only [List.mem_cons, List.not_mem_nil, or_false] at hc
    rcases hc with rfl | rfl | rfl <;> assumption
theorem colRow_four {W : World} {r : Nat} {a0 a1 a2 a3 b0 b1 b2 b3 c0 c1 c2 c3 d0 d1 d2 d3 : Int} {T : TypeId} {z : Nat × Nat} (h : Has W r (.cells #[.int .u8 a0, .int .u8 a1, .int .u8 a2, .int .u8 a3, .int .u8 b0, .int .u8 b1, .int .u8 b2, .int .u8 b3, .int .u8 c0, .int .u8 c1, .int .u8 c2, .int .u8 c3, .int .u8 d0, .int .u8 d1, .int .u8 d2, .int .u8 d3] T z))
    (ha : ByC (a0, a1, a2, a3)) (hb : ByC (b0, b1, b2, b3)) (hc : ByC (c0, c1, c2, c3)) (hd : ByC (d0, d1, d2, d3)) : ColRow W (some ⟨r, 0, none⟩) [(a0, a1, a2, a3), (b0, b1, b2, b3), (c0, c1, c2, c3), (d0, d1, d2, d3)] := by
  refine ⟨by simp [maxLen], fun i c hi => ?_, fun c hc => ?_⟩
  · match i, hi with
    | 0, hi => cases hi; exact ⟨_, rfl, h.cell 0, h.cell 1, h.cell 2, h.cell 3⟩
    | 1, hi => cases hi; exact ⟨_, rfl, h.cell 4, h.cell 5, h.cell 6, h.cell 7⟩
    | 2, hi => cases hi; exact ⟨_, rfl, h.cell 8, h.cell 9, h.cell 10, h.cell 11⟩
    | 3, hi => cases hi; exact ⟨_, rfl, h.cell 12, h.cell 13, h.cell 14, h.cell 15⟩
    | i + 4, hi => simp at hi
  · simp only [List.mem_cons, List.not_mem_nil, or_false] at hc
    rcases hc with rfl | rfl | rfl | rfl <;> assumption
theorem nearI_le (f : Nat → Int) (h0 : ∀ i, 0 ≤ f i) : ∀ k, 0 < k → 0 ≤ nearI f k ∧ ∀ i, i < k → f (nearI f k).toNat ≤ f i
  | 0, h => by omega
  | k + 1, _ => by
    unfold nearI
    by_cases hk : k = 0
    · subst hk
      rw [if_pos (.inl (by simp [nearI]))]
      exact ⟨by omega, fun i hi => by obtain rfl : i = 0 := by omega
                                      exact Int.le_refl _⟩
    · obtain ⟨h1, h2⟩ := nearI_le f h0 k (by omega)
      by_cases hc : nearI f k < 0 ∨ f k < f (nearI f k).toNat
      · rw [if_pos hc]
        refine ⟨by omega, fun i hi => ?_⟩
        rw [Int.toNat_natCast]
        rcases Nat.lt_or_ge i k with h | h
        · have := h2 i h; omega
        · obtain rfl : i = k := by omega
          exact Int.le_refl _
      · rw [if_neg hc]
        refine ⟨h1, fun i hi => ?_⟩
        rcases Nat.lt_or_ge i k with h | h
        · exact h2 i h
        · obtain rfl : i = k := by omega
          omega
theorem nearI_congr {f g : Nat → Int} : ∀ k, (∀ i, i < k → f i = g i) → nearI f k = nearI g k
  | 0, _ => rfl
  | k + 1, h => by
    have ih := nearI_congr k (fun i hi => h i (by omega))
    unfold nearI
    rw [ih, h k (by omega)]
    have hb := nearI_bd g k
    by_cases h1 : nearI g k < 0
    · rw [if_pos (.inl h1), if_pos (.inl h1)]
    · rw [h (nearI g k).toNat (by omega)]
theorem nearest_twice (a b c : Col) : nearI (farAt a [b, c, a, a]) [b, c, a, a].length = nearI (farAt a [b, c, a]) 3 := by
  have e : nearI (farAt a [b, c, a, a]) 3 = nearI (farAt a [b, c, a]) 3 := nearI_congr 3 fun i hi => by
    match i, hi with
    | 0, _ => rfl
    | 1, _ => rfl
    | 2, _ => rfl
  have h0 : ∀ i, 0 ≤ farAt a [b, c, a, a] i := fun i => by
    unfold farAt
    cases [b, c, a, a][i]? with
    | none => exact Int.le_refl _
    | some d => exact farC_lo _ _ _ _ _ _ _ _
  obtain ⟨h1, h2⟩ := nearI_le (farAt a [b, c, a, a]) h0 3 (by omega)
  have h3 := h2 2 (by omega)
  have e2 : farAt a [b, c, a, a] 2 = 0 := far_self _ _ _ _
  have e3 : farAt a [b, c, a, a] 3 = 0 := far_self _ _ _ _
  rw [← e]
  show nearI (farAt a [b, c, a, a]) (3 + 1) = _
  rw [nearI, if_neg]
  have := h0 (nearI (farAt a [b, c, a, a]) 3).toNat
  rw [e3]
  omega

set_option maxRecDepth 100000 in
set_option maxHeartbeats 2000000 in
theorem ways_any (r0 g0 b0 a0 r1 g1 b1 a1 r2 g2 b2 a2 : Int) (w : World) (m0 : ByC (r0, g0, b0, a0)) (m1 : ByC (r1, g1, b1, a1)) (m2 : ByC (r2, g2, b2, a2)) :
    Calls Try.prog 5 #[.agg #[.int .u8 r0, .int .u8 g0, .int .u8 b0, .int .u8 a0], .agg #[.int .u8 r1, .int .u8 g1, .int .u8 b1, .int .u8 a1], .agg #[.int .u8 r2, .int .u8 g2, .int .u8 b2, .int .u8 a2]] w fun e w' => e = .returned (.bool true) ∧ Below w.heap.size w w' := by
  go_enter Try.func5, Try.ntmps5
  go_wp2_with (fail)
  generalize hX : World.alloc _ _ = X
  have x0 : Has X w.heap.size (.cells #[.int .u8 r0, .int .u8 g0, .int .u8 b0, .int .u8 a0] 27 (0, 0)) := by rw [← hX]; exact ((Has.new' (by simp)).alloc _).alloc _
  have x1 : Has X (w.heap.size + 1) (.cells #[.int .u8 r1, .int .u8 g1, .int .u8 b1, .int .u8 a1] 27 (0, 0)) := by rw [← hX]; exact (Has.new' (by simp)).alloc _
  have x2 : Has X (w.heap.size + 1 + 1) (.cells #[.int .u8 r2, .int .u8 g2, .int .u8 b2, .int .u8 a2] 27 (0, 0)) := by rw [← hX]; exact Has.new' (by simp)
  have bX : Below w.heap.size w X := by rw [← hX]; exact (((Below.refl _ _).alloc (by simp) _).alloc (by simp) _).alloc (by simp; omega) _
  clear hX
  refine (wakes_any _).mono ?_
  rintro e w1 ⟨rfl, b1⟩
  have y0 := x0.below b1 x0.lt
  have y1 := x1.below b1 x1.lt
  have y2 := x2.below b1 x2.lt
  have B1 := bX.trans (b1.mono bX.size)
  clear x0 x1 x2 bX b1
  go_wp2_with (fail)
  have L0 : ∀ {w'}, Below w1.drew.heap.size w1.drew w' → w'.cell? ⟨w.heap.size, 0, none⟩ = some (.int .u8 r0) ∧ w'.cell? ⟨w.heap.size, 1, none⟩ = some (.int .u8 g0) ∧ w'.cell? ⟨w.heap.size, 2, none⟩ = some (.int .u8 b0) ∧ w'.cell? ⟨w.heap.size, 3, none⟩ = some (.int .u8 a0) := fun hB => (y0.drew.below hB y0.drew.lt).four
  have L1 : ∀ {w'}, Below w1.drew.heap.size w1.drew w' → w'.cell? ⟨w.heap.size + 1, 0, none⟩ = some (.int .u8 r1) ∧ w'.cell? ⟨w.heap.size + 1, 1, none⟩ = some (.int .u8 g1) ∧ w'.cell? ⟨w.heap.size + 1, 2, none⟩ = some (.int .u8 b1) ∧ w'.cell? ⟨w.heap.size + 1, 3, none⟩ = some (.int .u8 a1) := fun hB => (y1.drew.below hB y1.drew.lt).four
  have L2 : ∀ {w'}, Below w1.drew.heap.size w1.drew w' → w'.cell? ⟨w.heap.size + 1 + 1, 0, none⟩ = some (.int .u8 r2) ∧ w'.cell? ⟨w.heap.size + 1 + 1, 1, none⟩ = some (.int .u8 g2) ∧ w'.cell? ⟨w.heap.size + 1 + 1, 2, none⟩ = some (.int .u8 b2) ∧ w'.cell? ⟨w.heap.size + 1 + 1, 3, none⟩ = some (.int .u8 a2) := fun hB => (y2.drew.below hB y2.drew.lt).four
  refine wp_region_fresh 9 [(9, false), (10, false), (11, false)]
    [(fun _ => .agg #[.int .u8 r0, .int .u8 g0, .int .u8 b0, .int .u8 a0], none),
     (fun _ => .agg #[.int .u8 r1, .int .u8 g1, .int .u8 b1, .int .u8 a1], none),
     (fun _ => .int .i64 (farC r0 g0 b0 a0 r1 g1 b1 a1), none),
     (fun _ => .agg #[.int .u8 r1, .int .u8 g1, .int .u8 b1, .int .u8 a1], none),
     (fun _ => .agg #[.int .u8 r2, .int .u8 g2, .int .u8 b2, .int .u8 a2], none),
     (fun _ => .int .i64 (farC r1 g1 b1 a1 r2 g2 b2 a2), none),
     (fun _ => .agg #[.int .u8 r0, .int .u8 g0, .int .u8 b0, .int .u8 a0], none),
     (fun _ => .agg #[.int .u8 r2, .int .u8 g2, .int .u8 b2, .int .u8 a2], none),
     (fun _ => .int .i64 (farC r0 g0 b0 a0 r2 g2 b2 a2), none)] (fun _ _ => True) (by kernel_rfl) (by kernel_rfl) rfl ?_
  intro z
  refine fresh_pure rfl rfl (fun w' hB => by have l0 := L0 hB; have l1 := L1 hB; have l2 := L2 hB; go_simp) ?_
  go_simp
  refine fresh_pure rfl rfl (fun w' hB => by have l0 := L0 hB; have l1 := L1 hB; have l2 := L2 hB; go_simp) ?_
  go_simp
  refine fresh_call rfl rfl (fun w' hB hA => by go_simp) (fun w' hB hA => far_any _ _ _ _ _ _ _ _ w' m0.1 m0.2.1 m0.2.2.1 m0.2.2.2 m1.1 m1.2.1 m1.2.2.1 m1.2.2.2) ?_
  go_simp
  refine fresh_pure rfl rfl (fun w' hB => by have l0 := L0 hB; have l1 := L1 hB; have l2 := L2 hB; go_simp) ?_
  go_simp
  refine fresh_pure rfl rfl (fun w' hB => by have l0 := L0 hB; have l1 := L1 hB; have l2 := L2 hB; go_simp) ?_
  go_simp
  refine fresh_call rfl rfl (fun w' hB hA => by go_simp) (fun w' hB hA => far_any _ _ _ _ _ _ _ _ w' m1.1 m1.2.1 m1.2.2.1 m1.2.2.2 m2.1 m2.2.1 m2.2.2.1 m2.2.2.2) ?_
  go_simp
  refine fresh_pure rfl rfl (fun w' hB => by have l0 := L0 hB; have l1 := L1 hB; have l2 := L2 hB; go_simp) ?_
  go_simp
  refine fresh_pure rfl rfl (fun w' hB => by have l0 := L0 hB; have l1 := L1 hB; have l2 := L2 hB; go_simp) ?_
  go_simp
  refine fresh_call rfl rfl (fun w' hB hA => by go_simp) (fun w' hB hA => far_any _ _ _ _ _ _ _ _ w' m0.1 m0.2.1 m0.2.2.1 m0.2.2.2 m2.1 m2.2.1 m2.2.2.1 m2.2.2.2) ?_
  go_simp
  refine fresh_end fun V hB hA hD => ?_
  have z0 := y0.drew.below hB y0.drew.lt
  have z1 := y1.drew.below hB y1.drew.lt
  have z2 := y2.drew.below hB y2.drew.lt
  have B2 := B1.drew.trans (hB.mono B1.drew.size)
  clear L0 L1 L2 y0 y1 y2 B1 hB hA hD
  go_simp
  repeat (refine sched_pure (v := ?_) rfl rfl ?_ ?_; rotate_left; (focus (intro Y hY; go_simp; try with_reducible rfl)); go_simp; try go_bits)
  refine sched_end ?_
  have k0 := farC_lo r0 g0 b0 a0 r1 g1 b1 a1
  have k1 := farC_hi (r := r0) (g := g0) (b := b0) (a := a0) (r' := r1) (g' := g1) (b' := b1) (a' := a1) m0.1 m0.2.1 m0.2.2.1 m0.2.2.2 m1.1 m1.2.1 m1.2.2.1 m1.2.2.2
  have k2 := farC_lo r1 g1 b1 a1 r2 g2 b2 a2
  have k3 := farC_hi (r := r1) (g := g1) (b := b1) (a := a1) (r' := r2) (g' := g2) (b' := b2) (a' := a2) m1.1 m1.2.1 m1.2.2.1 m1.2.2.2 m2.1 m2.2.1 m2.2.2.1 m2.2.2.2
  have k4 := far_three r0 g0 b0 a0 r1 g1 b1 a1 r2 g2 b2 a2
  have k5 := far_zero r0 g0 b0 a0 r1 g1 b1 a1
  have n0 : (farC r0 g0 b0 a0 r1 g1 b1 a1 < 0) = False := eq_false (by omega)
  have n1 : (1020 < farC r0 g0 b0 a0 r1 g1 b1 a1) = False := eq_false (by omega)
  have n2 : (farC r0 g0 b0 a0 r1 g1 b1 a1 + farC r1 g1 b1 a1 r2 g2 b2 a2 < farC r0 g0 b0 a0 r2 g2 b2 a2) = False := eq_false (by omega)
  have d0 := z0.four
  have d1 := z1.four
  go_wp2_with (fail)
  refine (far_any _ _ _ _ _ _ _ _ _ m1.1 m1.2.1 m1.2.2.1 m1.2.2.2 m0.1 m0.2.1 m0.2.2.1 m0.2.2.2).mono ?_
  rintro e w3 ⟨he, b3⟩
  rw [far_comm] at he
  subst he
  have y0 := z0.below b3 z0.lt
  have y1 := z1.below b3 z1.lt
  have y2 := z2.below b3 z2.lt
  have B3 := B2.trans (b3.mono B2.size)
  clear z0 z1 z2 B2 b3 d0 d1
  have d0 := y0.four
  have d1 := y1.four
  go_wp2_with (fail)
  have n3 : IntKind.i64.wrap (farC r0 g0 b0 a0 r1 g1 b1 a1 - 1) = farC r0 g0 b0 a0 r1 g1 b1 a1 - 1 := by rw [IntKind.wrap_i64]; omega
  clear d0 d1 k2 k3 k4 k5 n0 n1 n2
  have L0 : ∀ {w'}, Below w3.drew.heap.size w3.drew w' → w'.cell? ⟨w.heap.size, 0, none⟩ = some (.int .u8 r0) ∧ w'.cell? ⟨w.heap.size, 1, none⟩ = some (.int .u8 g0) ∧ w'.cell? ⟨w.heap.size, 2, none⟩ = some (.int .u8 b0) ∧ w'.cell? ⟨w.heap.size, 3, none⟩ = some (.int .u8 a0) := fun hB => (y0.drew.below hB y0.drew.lt).four
  have L1 : ∀ {w'}, Below w3.drew.heap.size w3.drew w' → w'.cell? ⟨w.heap.size + 1, 0, none⟩ = some (.int .u8 r1) ∧ w'.cell? ⟨w.heap.size + 1, 1, none⟩ = some (.int .u8 g1) ∧ w'.cell? ⟨w.heap.size + 1, 2, none⟩ = some (.int .u8 b1) ∧ w'.cell? ⟨w.heap.size + 1, 3, none⟩ = some (.int .u8 a1) := fun hB => (y1.drew.below hB y1.drew.lt).four
  have L2 : ∀ {w'}, Below w3.drew.heap.size w3.drew w' → w'.cell? ⟨w.heap.size + 1 + 1, 0, none⟩ = some (.int .u8 r2) ∧ w'.cell? ⟨w.heap.size + 1 + 1, 1, none⟩ = some (.int .u8 g2) ∧ w'.cell? ⟨w.heap.size + 1 + 1, 2, none⟩ = some (.int .u8 b2) ∧ w'.cell? ⟨w.heap.size + 1 + 1, 3, none⟩ = some (.int .u8 a2) := fun hB => (y2.drew.below hB y2.drew.lt).four
  refine wp_region_fresh 33 [(33, false)]
    [(fun _ => .agg #[.int .u8 r0, .int .u8 g0, .int .u8 b0, .int .u8 a0], none),
     (fun _ => .agg #[.int .u8 r1, .int .u8 g1, .int .u8 b1, .int .u8 a1], none),
     (fun _ => .int .i64 (farC r0 g0 b0 a0 r1 g1 b1 a1), none),
     (fun _ => .bool true, none),
     (fun _ => .bool true, none),
     (fun _ => .agg #[.int .u8 r0, .int .u8 g0, .int .u8 b0, .int .u8 a0], none),
     (fun _ => .agg #[.int .u8 r1, .int .u8 g1, .int .u8 b1, .int .u8 a1], none),
     (fun _ => .int .i64 (farC r0 g0 b0 a0 r1 g1 b1 a1), none),
     (fun _ => .int .i64 (farC r0 g0 b0 a0 r1 g1 b1 a1 - 1), none),
     (fun _ => .bool false, none),
     (fun _ => .bool true, none),
     (fun _ => .bool true, none),
     (fun _ => .bool true, none),
     (fun _ => .agg #[.int .u8 r0, .int .u8 g0, .int .u8 b0, .int .u8 a0], none),
     (fun _ => .agg #[.int .u8 r1, .int .u8 g1, .int .u8 b1, .int .u8 a1], none),
     (fun _ => .agg #[.int .u8 r2, .int .u8 g2, .int .u8 b2, .int .u8 a2], none),
     (fun _ => .agg #[.int .u8 r0, .int .u8 g0, .int .u8 b0, .int .u8 a0], none),
     (fun b => .slice (some ⟨b, 0, none⟩) 3 3, some (.cells #[.int .u8 r1, .int .u8 g1, .int .u8 b1, .int .u8 a1, .int .u8 r2, .int .u8 g2, .int .u8 b2, .int .u8 a2, .int .u8 r0, .int .u8 g0, .int .u8 b0, .int .u8 a0] 27 (0, 0))),
     (fun _ => .int .i64 (nearI (farAt (r0, g0, b0, a0) [(r1, g1, b1, a1), (r2, g2, b2, a2), (r0, g0, b0, a0)]) 3), none),
     (fun _ => .agg #[.int .u8 r0, .int .u8 g0, .int .u8 b0, .int .u8 a0], none),
     (fun _ => .agg #[.int .u8 r1, .int .u8 g1, .int .u8 b1, .int .u8 a1], none),
     (fun _ => .agg #[.int .u8 r2, .int .u8 g2, .int .u8 b2, .int .u8 a2], none),
     (fun _ => .agg #[.int .u8 r0, .int .u8 g0, .int .u8 b0, .int .u8 a0], none),
     (fun _ => .agg #[.int .u8 r0, .int .u8 g0, .int .u8 b0, .int .u8 a0], none),
     (fun b => .slice (some ⟨b, 0, none⟩) 4 4, some (.cells #[.int .u8 r1, .int .u8 g1, .int .u8 b1, .int .u8 a1, .int .u8 r2, .int .u8 g2, .int .u8 b2, .int .u8 a2, .int .u8 r0, .int .u8 g0, .int .u8 b0, .int .u8 a0, .int .u8 r0, .int .u8 g0, .int .u8 b0, .int .u8 a0] 27 (0, 0))),
     (fun _ => .int .i64 (nearI (farAt (r0, g0, b0, a0) [(r1, g1, b1, a1), (r2, g2, b2, a2), (r0, g0, b0, a0)]) 3), none),
     (fun _ => .bool true, none),
     (fun _ => .bool true, none),
     (fun _ => .bool true, none),
     (fun _ => .agg #[.int .u8 r0, .int .u8 g0, .int .u8 b0, .int .u8 a0], none),
     (fun _ => .int .i64 (-1), none),
     (fun _ => .bool true, none),
     (fun _ => .bool true, none)] (fun _ _ => True) (by kernel_rfl) (by kernel_rfl) rfl ?_
  intro z
  refine fresh_pure rfl rfl (fun w' hB => by have l0 := L0 hB; have l1 := L1 hB; have l2 := L2 hB; go_simp) ?_
  go_simp
  refine fresh_pure rfl rfl (fun w' hB => by have l0 := L0 hB; have l1 := L1 hB; have l2 := L2 hB; go_simp) ?_
  go_simp
  refine fresh_pure rfl rfl (fun w' hB => by go_simp) ?_
  go_simp
  refine fresh_call rfl rfl (fun w' hB hA => by go_simp) (fun w' hB hA => (near_any r0 g0 b0 a0 r1 g1 b1 a1 (farC r0 g0 b0 a0 r1 g1 b1 a1) w' m0.1 m0.2.1 m0.2.2.1 m0.2.2.2 m1.1 m1.2.1 m1.2.2.1 m1.2.2.2).mono fun e w'' ⟨h, h'⟩ => ⟨by rw [h, decide_eq_true (Int.le_refl _)], h'⟩) ?_
  go_simp
  refine fresh_pure rfl rfl (fun w' hB => by go_simp) ?_
  go_simp
  refine fresh_pure rfl rfl (fun w' hB => by have l0 := L0 hB; have l1 := L1 hB; have l2 := L2 hB; go_simp) ?_
  go_simp
  refine fresh_pure rfl rfl (fun w' hB => by have l0 := L0 hB; have l1 := L1 hB; have l2 := L2 hB; go_simp) ?_
  go_simp
  refine fresh_pure rfl rfl (fun w' hB => by go_simp) ?_
  go_simp
  refine fresh_pure rfl rfl (fun w' hB => by go_simp) ?_
  go_simp
  refine fresh_call rfl rfl (fun w' hB hA => by go_simp) (fun w' hB hA => (near_any r0 g0 b0 a0 r1 g1 b1 a1 (farC r0 g0 b0 a0 r1 g1 b1 a1 - 1) w' m0.1 m0.2.1 m0.2.2.1 m0.2.2.2 m1.1 m1.2.1 m1.2.2.1 m1.2.2.2).mono fun e w'' ⟨h, h'⟩ => ⟨by rw [h, decide_eq_false (by omega)], h'⟩) ?_
  go_simp
  refine fresh_pure rfl rfl (fun w' hB => by go_simp) ?_
  go_simp
  refine fresh_pure rfl rfl (fun w' hB => by go_simp) ?_
  go_simp
  refine fresh_pure rfl rfl (fun w' hB => by go_simp) ?_
  go_simp
  refine fresh_pure rfl rfl (fun w' hB => by have l0 := L0 hB; have l1 := L1 hB; have l2 := L2 hB; go_simp) ?_
  go_simp
  refine fresh_pure rfl rfl (fun w' hB => by have l0 := L0 hB; have l1 := L1 hB; have l2 := L2 hB; go_simp) ?_
  go_simp
  refine fresh_pure rfl rfl (fun w' hB => by have l0 := L0 hB; have l1 := L1 hB; have l2 := L2 hB; go_simp) ?_
  go_simp
  refine fresh_pure rfl rfl (fun w' hB => by have l0 := L0 hB; have l1 := L1 hB; have l2 := L2 hB; go_simp) ?_
  go_simp
  refine fresh_new rfl rfl (fun w' => by go_simp) ?_
  go_simp
  refine fresh_call rfl rfl (fun w' hB hA => by go_simp) (fun w' hB hA => nearest_any (r0, g0, b0, a0) _ 3 [(r1, g1, b1, a1), (r2, g2, b2, a2), (r0, g0, b0, a0)] w' m0 (colRow_three (hA 17 _ _ (by kernel_rfl) rfl).2 m1 m2 m0)) ?_
  go_simp
  refine fresh_pure rfl rfl (fun w' hB => by have l0 := L0 hB; have l1 := L1 hB; have l2 := L2 hB; go_simp) ?_
  go_simp
  refine fresh_pure rfl rfl (fun w' hB => by have l0 := L0 hB; have l1 := L1 hB; have l2 := L2 hB; go_simp) ?_
  go_simp
  refine fresh_pure rfl rfl (fun w' hB => by have l0 := L0 hB; have l1 := L1 hB; have l2 := L2 hB; go_simp) ?_
  go_simp
  refine fresh_pure rfl rfl (fun w' hB => by have l0 := L0 hB; have l1 := L1 hB; have l2 := L2 hB; go_simp) ?_
  go_simp
  refine fresh_pure rfl rfl (fun w' hB => by have l0 := L0 hB; have l1 := L1 hB; have l2 := L2 hB; go_simp) ?_
  go_simp
  refine fresh_new rfl rfl (fun w' => by go_simp) ?_
  go_simp
  refine fresh_call rfl rfl (fun w' hB hA => by go_simp) (fun w' hB hA => (nearest_any (r0, g0, b0, a0) _ 4 [(r1, g1, b1, a1), (r2, g2, b2, a2), (r0, g0, b0, a0), (r0, g0, b0, a0)] w' m0 (colRow_four (hA 24 _ _ (by kernel_rfl) rfl).2 m1 m2 m0 m0)).mono fun e w'' ⟨h, h'⟩ => ⟨by rw [h]; exact congrArg (fun n => Ending.returned (Value.int .i64 n)) (nearest_twice _ _ _), h'⟩) ?_
  go_simp
  refine fresh_pure rfl rfl (fun w' hB => by go_simp) ?_
  go_simp
  refine fresh_pure rfl rfl (fun w' hB => by go_simp) ?_
  go_simp
  refine fresh_pure rfl rfl (fun w' hB => by go_simp) ?_
  go_simp
  refine fresh_pure rfl rfl (fun w' hB => by have l0 := L0 hB; have l1 := L1 hB; have l2 := L2 hB; go_simp) ?_
  go_simp
  refine fresh_call rfl rfl (fun w' hB hA => by go_simp) (fun w' hB hA => nearest_any (r0, g0, b0, a0) none 0 [] w' m0 colRow_nil) ?_
  go_simp
  refine fresh_pure rfl rfl (fun w' hB => by go_simp) ?_
  go_simp
  refine fresh_pure rfl rfl (fun w' hB => by go_simp) ?_
  go_simp
  refine fresh_end fun V hB hA hD => ?_
  have B4 := B3.drew.trans (hB.mono B3.drew.size)
  clear L0 L1 L2 y0 y1 y2 B3 hB hA hD k0
  go_simp
  repeat (refine sched_pure (v := ?_) rfl rfl ?_ ?_; rotate_left; (focus (intro Y hY; go_simp; try with_reducible rfl)); go_simp; try go_bits)
  refine sched_end ?_
  go_wp2
  go_ret
  exact ⟨rfl, B4⟩
end Go.Proofs.Ytnladfpckejogaa
