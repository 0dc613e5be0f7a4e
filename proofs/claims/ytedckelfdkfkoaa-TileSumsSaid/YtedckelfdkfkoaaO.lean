/- Walks: the document's tiles: Shift. -/
import Derived.Test.YtedckelfdkfkoaaN
namespace Go.Proofs.Ytedckelfdkfkoaa
open Go.RowKit Go.Shelf
attribute [local go_sem] Oper.semAt_some
attribute [local go_sem 2000] run_col run_tile
attribute [local go_sem ↓] zero25 build25 build176z build176 load25 store25
attribute [local go_sem] World.setRow_alloc_new
attribute [local go_sem] rowAt_alloc rowFree_alloc rowAt_drew rowFree_drew zeroA_size zc176 zeroA_ones blkOf_ptr aggOf_agg

theorem foldT_idle (f : Int × Int → (Int × Int) × Col) : ∀ (l : List (Int × Int)) (T : List Col), (∀ p ∈ l, isB (f p).1.1 (f p).1.2 = false) → foldT f T l = T
  | [], _, _ => rfl
  | p :: l, T, h => by
    show foldT f (putT T _ _ _) l = T
    rw [foldT_idle f l _ (fun q hq => h q (by simp [hq]))]
    unfold putT; rw [h p (by simp)]; rfl
theorem placesL_mem {p : Int × Int} (h : p ∈ placesL) : 0 ≤ p.1 ∧ p.1 < 8 ∧ 0 ≤ p.2 ∧ p.2 < 8 := by
  obtain ⟨k, hk, rfl⟩ := List.mem_map.1 h
  have := List.mem_range.1 hk
  simp only []
  omega
theorem shift_out (T : List Col) (c : Col) (x y : Int) (h : ¬ (-8 ≤ x ∧ x ≤ 8 ∧ -8 ≤ y ∧ y ≤ 8)) : moveT T c (fun u v => (u + clampZ x, v + clampZ y)) = List.replicate 64 c := by
  unfold moveT
  refine foldT_idle _ _ _ fun p hp => ?_
  have hp' := placesL_mem hp
  rw [isB_not]
  simp only []
  unfold clampZ
  omega
theorem clampZ_in {x : Int} (h1 : -8 ≤ x) (h2 : x ≤ 8) : clampZ x = x := by unfold clampZ; omega
def shiftF (T : List Col) (x y : Int) (p : Int × Int) : (Int × Int) × Col := ((p.1 + x, p.2 + y), atT T (p.2 * 8 + p.1).toNat)

set_option maxRecDepth 100000 in
set_option maxHeartbeats 1000000 in
theorem rshift_no1 (B : Array Value) (x y : Int) (c : Col) (w : World) (h1 : x < -8) :
    Calls Try.prog 41 #[.agg B, .int .i64 x, .int .i64 y, colV c] w fun e w' => e = .returned (.agg (tileA (List.replicate 64 c))) ∧ Below w.heap.size w w' := by
  obtain ⟨c0, c1, c2, c3⟩ := c
  have l1 : (tileA (List.replicate 64 (c0, c1, c2, c3))).size = 256 := by rw [tileA_size]; simp
  have l2 := onesB_tile (List.replicate 64 (c0, c1, c2, c3))
  obtain ⟨A, hA⟩ : ∃ A, tileA (List.replicate 64 (c0, c1, c2, c3)) = A := ⟨_, rfl⟩
  rw [hA] at l1 l2 ⊢
  have HA := Lib.hid hA
  clear hA
  go_enter Try.func41, Try.ntmps41
  go_wp2_with (fail)
  have hn := rnew_any (c0, c1, c2, c3) (((w.alloc (.cells B 25)).alloc (.cells #[.int .u8 c0, .int .u8 c1, .int .u8 c2, .int .u8 c3] 23)).alloc (.cells zeroA 25))
  rw [HA.out] at hn
  refine hn.mono ?_
  rintro e w1 ⟨rfl, hb1⟩
  have k1 := (Has.new ((w.alloc (.cells B 25)).alloc (.cells #[.int .u8 c0, .int .u8 c1, .int .u8 c2, .int .u8 c3] 23)) (.cells zeroA 25)).below hb1 (Has.new _ _).lt
  simp only [World.size_alloc] at k1
  have b1 := ((((Below.refl w.heap.size w).alloc (by simp) (.cells B 25)).alloc (by simp <;> omega) (.cells #[.int .u8 c0, .int .u8 c1, .int .u8 c2, .int .u8 c3] 23)).alloc (by simp <;> omega) (.cells zeroA 25)).trans (hb1.mono (by simp; omega))
  have hlt := k1.lt
  have e1 := (k1.alloc (.cells A 25)).row
  have e2 := (k1.alloc (.cells A 25)).rowFree
  have H := Lib.hid (And.intro (k1.alloc (.cells A 25)) (b1.alloc b1.size (.cells A 25)))
  clear hn hb1 k1 b1
  go_wp2
  have hr := res25 (fn := Try.f41) (p := 8) Try.results41
  refine bodyPost_ret (v := .agg A) (hr _ _ (w.heap.size + 1 + 1) 25 A (0, 0) rfl (H.out.1.setRow A) l1) rfl ⟨by rw [← HA.out], below_setRow H.out.2 (by omega) _⟩
set_option maxRecDepth 100000 in
set_option maxHeartbeats 1000000 in
theorem rshift_no2 (B : Array Value) (x y : Int) (c : Col) (w : World) (h1 : -8 ≤ x) (h2 : 8 < x) :
    Calls Try.prog 41 #[.agg B, .int .i64 x, .int .i64 y, colV c] w fun e w' => e = .returned (.agg (tileA (List.replicate 64 c))) ∧ Below w.heap.size w w' := by
  obtain ⟨c0, c1, c2, c3⟩ := c
  have l1 : (tileA (List.replicate 64 (c0, c1, c2, c3))).size = 256 := by rw [tileA_size]; simp
  have l2 := onesB_tile (List.replicate 64 (c0, c1, c2, c3))
  obtain ⟨A, hA⟩ : ∃ A, tileA (List.replicate 64 (c0, c1, c2, c3)) = A := ⟨_, rfl⟩
  rw [hA] at l1 l2 ⊢
  have HA := Lib.hid hA
  clear hA
  go_enter Try.func41, Try.ntmps41
  go_wp2_with (fail)
  have hn := rnew_any (c0, c1, c2, c3) (((w.alloc (.cells B 25)).alloc (.cells #[.int .u8 c0, .int .u8 c1, .int .u8 c2, .int .u8 c3] 23)).alloc (.cells zeroA 25))
  rw [HA.out] at hn
  refine hn.mono ?_
  rintro e w1 ⟨rfl, hb1⟩
  have k1 := (Has.new ((w.alloc (.cells B 25)).alloc (.cells #[.int .u8 c0, .int .u8 c1, .int .u8 c2, .int .u8 c3] 23)) (.cells zeroA 25)).below hb1 (Has.new _ _).lt
  simp only [World.size_alloc] at k1
  have b1 := ((((Below.refl w.heap.size w).alloc (by simp) (.cells B 25)).alloc (by simp <;> omega) (.cells #[.int .u8 c0, .int .u8 c1, .int .u8 c2, .int .u8 c3] 23)).alloc (by simp <;> omega) (.cells zeroA 25)).trans (hb1.mono (by simp; omega))
  have hlt := k1.lt
  have e1 := (k1.alloc (.cells A 25)).row
  have e2 := (k1.alloc (.cells A 25)).rowFree
  have H := Lib.hid (And.intro (k1.alloc (.cells A 25)) (b1.alloc b1.size (.cells A 25)))
  clear hn hb1 k1 b1
  go_wp2
  have hr := res25 (fn := Try.f41) (p := 8) Try.results41
  refine bodyPost_ret (v := .agg A) (hr _ _ (w.heap.size + 1 + 1) 25 A (0, 0) rfl (H.out.1.setRow A) l1) rfl ⟨by rw [← HA.out], below_setRow H.out.2 (by omega) _⟩
set_option maxRecDepth 100000 in
set_option maxHeartbeats 1000000 in
theorem rshift_no3 (B : Array Value) (x y : Int) (c : Col) (w : World) (h1 : -8 ≤ x) (h2 : x ≤ 8) (h3 : y < -8) :
    Calls Try.prog 41 #[.agg B, .int .i64 x, .int .i64 y, colV c] w fun e w' => e = .returned (.agg (tileA (List.replicate 64 c))) ∧ Below w.heap.size w w' := by
  obtain ⟨c0, c1, c2, c3⟩ := c
  have l1 : (tileA (List.replicate 64 (c0, c1, c2, c3))).size = 256 := by rw [tileA_size]; simp
  have l2 := onesB_tile (List.replicate 64 (c0, c1, c2, c3))
  obtain ⟨A, hA⟩ : ∃ A, tileA (List.replicate 64 (c0, c1, c2, c3)) = A := ⟨_, rfl⟩
  rw [hA] at l1 l2 ⊢
  have HA := Lib.hid hA
  clear hA
  go_enter Try.func41, Try.ntmps41
  go_wp2_with (fail)
  have hn := rnew_any (c0, c1, c2, c3) (((w.alloc (.cells B 25)).alloc (.cells #[.int .u8 c0, .int .u8 c1, .int .u8 c2, .int .u8 c3] 23)).alloc (.cells zeroA 25))
  rw [HA.out] at hn
  refine hn.mono ?_
  rintro e w1 ⟨rfl, hb1⟩
  have k1 := (Has.new ((w.alloc (.cells B 25)).alloc (.cells #[.int .u8 c0, .int .u8 c1, .int .u8 c2, .int .u8 c3] 23)) (.cells zeroA 25)).below hb1 (Has.new _ _).lt
  simp only [World.size_alloc] at k1
  have b1 := ((((Below.refl w.heap.size w).alloc (by simp) (.cells B 25)).alloc (by simp <;> omega) (.cells #[.int .u8 c0, .int .u8 c1, .int .u8 c2, .int .u8 c3] 23)).alloc (by simp <;> omega) (.cells zeroA 25)).trans (hb1.mono (by simp; omega))
  have hlt := k1.lt
  have e1 := (k1.alloc (.cells A 25)).row
  have e2 := (k1.alloc (.cells A 25)).rowFree
  have H := Lib.hid (And.intro (k1.alloc (.cells A 25)) (b1.alloc b1.size (.cells A 25)))
  clear hn hb1 k1 b1
  go_wp2
  have hr := res25 (fn := Try.f41) (p := 8) Try.results41
  refine bodyPost_ret (v := .agg A) (hr _ _ (w.heap.size + 1 + 1) 25 A (0, 0) rfl (H.out.1.setRow A) l1) rfl ⟨by rw [← HA.out], below_setRow H.out.2 (by omega) _⟩
set_option maxRecDepth 100000 in
set_option maxHeartbeats 1000000 in
theorem rshift_no4 (B : Array Value) (x y : Int) (c : Col) (w : World) (h1 : -8 ≤ x) (h2 : x ≤ 8) (h3 : -8 ≤ y) (h4 : 8 < y) :
    Calls Try.prog 41 #[.agg B, .int .i64 x, .int .i64 y, colV c] w fun e w' => e = .returned (.agg (tileA (List.replicate 64 c))) ∧ Below w.heap.size w w' := by
  obtain ⟨c0, c1, c2, c3⟩ := c
  have l1 : (tileA (List.replicate 64 (c0, c1, c2, c3))).size = 256 := by rw [tileA_size]; simp
  have l2 := onesB_tile (List.replicate 64 (c0, c1, c2, c3))
  obtain ⟨A, hA⟩ : ∃ A, tileA (List.replicate 64 (c0, c1, c2, c3)) = A := ⟨_, rfl⟩
  rw [hA] at l1 l2 ⊢
  have HA := Lib.hid hA
  clear hA
  go_enter Try.func41, Try.ntmps41
  go_wp2_with (fail)
  have hn := rnew_any (c0, c1, c2, c3) (((w.alloc (.cells B 25)).alloc (.cells #[.int .u8 c0, .int .u8 c1, .int .u8 c2, .int .u8 c3] 23)).alloc (.cells zeroA 25))
  rw [HA.out] at hn
  refine hn.mono ?_
  rintro e w1 ⟨rfl, hb1⟩
  have k1 := (Has.new ((w.alloc (.cells B 25)).alloc (.cells #[.int .u8 c0, .int .u8 c1, .int .u8 c2, .int .u8 c3] 23)) (.cells zeroA 25)).below hb1 (Has.new _ _).lt
  simp only [World.size_alloc] at k1
  have b1 := ((((Below.refl w.heap.size w).alloc (by simp) (.cells B 25)).alloc (by simp <;> omega) (.cells #[.int .u8 c0, .int .u8 c1, .int .u8 c2, .int .u8 c3] 23)).alloc (by simp <;> omega) (.cells zeroA 25)).trans (hb1.mono (by simp; omega))
  have hlt := k1.lt
  have e1 := (k1.alloc (.cells A 25)).row
  have e2 := (k1.alloc (.cells A 25)).rowFree
  have H := Lib.hid (And.intro (k1.alloc (.cells A 25)) (b1.alloc b1.size (.cells A 25)))
  clear hn hb1 k1 b1
  go_wp2
  have hr := res25 (fn := Try.f41) (p := 8) Try.results41
  refine bodyPost_ret (v := .agg A) (hr _ _ (w.heap.size + 1 + 1) 25 A (0, 0) rfl (H.out.1.setRow A) l1) rfl ⟨by rw [← HA.out], below_setRow H.out.2 (by omega) _⟩
theorem rshift_no (T : List Col) (x y : Int) (c : Col) (w : World) (h : ¬ (-8 ≤ x ∧ x ≤ 8 ∧ -8 ≤ y ∧ y ≤ 8)) :
    Calls Try.prog 41 #[.agg (tileA T), .int .i64 x, .int .i64 y, colV c] w fun e w' => e = .returned (.agg (tileA (moveT T c (fun u v => (u + clampZ x, v + clampZ y))))) ∧ Below w.heap.size w w' := by
  rw [shift_out T c x y h]
  by_cases h1 : x < -8
  · exact rshift_no1 _ x y c w h1
  · by_cases h2 : 8 < x
    · exact rshift_no2 _ x y c w (by omega) h2
    · by_cases h3 : y < -8
      · exact rshift_no3 _ x y c w (by omega) (by omega) h3
      · exact rshift_no4 _ x y c w (by omega) (by omega) (by omega) (by omega)

set_option maxRecDepth 100000 in
set_option maxHeartbeats 1000000 in
theorem rshift_in (T : List Col) (x y : Int) (c : Col) (w : World) (hT : T.length = 64) (h1 : -8 ≤ x) (h2 : x ≤ 8) (h3 : -8 ≤ y) (h4 : y ≤ 8) :
    Calls Try.prog 41 #[.agg (tileA T), .int .i64 x, .int .i64 y, colV c] w fun e w' => e = .returned (.agg (tileA (foldT (shiftF T x y) (List.replicate 64 c) placesL))) ∧ Below w.heap.size w w' := by
  obtain ⟨c0, c1, c2, c3⟩ := c
  have hs : (tileA T).size = 256 := by rw [tileA_size, hT]
  have HT := Lib.hid hT
  have l1 : (tileA (List.replicate 64 (c0, c1, c2, c3))).size = 256 := by rw [tileA_size]; simp
  have l2 := onesB_tile (List.replicate 64 (c0, c1, c2, c3))
  obtain ⟨A, hA⟩ : ∃ A, tileA (List.replicate 64 (c0, c1, c2, c3)) = A := ⟨_, rfl⟩
  rw [hA] at l1 l2
  have HA := Lib.hid hA
  clear hA hT
  go_enter Try.func41, Try.ntmps41
  go_wp2_with (fail)
  have hn := rnew_any (c0, c1, c2, c3) (((w.alloc (.cells (tileA T) 25)).alloc (.cells #[.int .u8 c0, .int .u8 c1, .int .u8 c2, .int .u8 c3] 23)).alloc (.cells zeroA 25))
  rw [HA.out] at hn
  refine hn.mono ?_
  rintro e w1 ⟨rfl, hb1⟩
  have k0 := (((Has.new w (.cells (tileA T) 25)).alloc (.cells #[.int .u8 c0, .int .u8 c1, .int .u8 c2, .int .u8 c3] 23)).alloc (.cells zeroA 25)).below hb1 (by simp <;> omega)
  have k1 := (Has.new ((w.alloc (.cells (tileA T) 25)).alloc (.cells #[.int .u8 c0, .int .u8 c1, .int .u8 c2, .int .u8 c3] 23)) (.cells zeroA 25)).below hb1 (Has.new _ _).lt
  simp only [World.size_alloc] at k1
  have b1 := ((((Below.refl w.heap.size w).alloc (by simp) (.cells (tileA T) 25)).alloc (by simp <;> omega) (.cells #[.int .u8 c0, .int .u8 c1, .int .u8 c2, .int .u8 c3] 23)).alloc (by simp <;> omega) (.cells zeroA 25)).trans (hb1.mono (by simp; omega))
  have hlt := k1.lt
  have H := Lib.hid (And.intro (k0.alloc (.cells A 25)) (And.intro (k1.alloc (.cells A 25)) (b1.alloc b1.size (.cells A 25))))
  clear hn hb1 k0 k1 b1
  go_wp2
  obtain ⟨r, hr⟩ : ∃ r, w1.heap.size = r := ⟨_, rfl⟩
  rw [hr]
  have x2 : Has (w1.alloc (.cells A 25)) r (.cells (tileA (foldT (shiftF T x y) (List.replicate 64 (c0, c1, c2, c3)) [])) 25 (0, 0)) := by
    show Has (w1.alloc (.cells A 25)) r (.cells (tileA (List.replicate 64 (c0, c1, c2, c3))) 25 (0, 0))
    rw [HA.out]; exact Has.new' hr.symm
  have sz : (w1.alloc (.cells A 25)).heap.size = r + 1 := by rw [World.size_alloc, hr]
  rw [hr] at hlt
  generalize w1.alloc (.cells A 25) = X at *
  have HX := Lib.hid (And.intro H.out sz)
  clear hr sz H
  go_loopg [29] 8 (fun n i wr => ∃ b : Nat, b ≤ 8 ∧ n = 8 - b ∧ i = .int .i64 b ∧ Hid (Grew [r] X wr ∧ Has wr r (.cells (tileA (foldT (shiftF T x y) (List.replicate 64 (c0, c1, c2, c3)) (placesL.take (b * 8)))) 25 (0, 0))))
  case atStart => exact ⟨0, by omega, by omega, rfl, Lib.hid ⟨Grew.refl _ _, x2⟩⟩
  case round =>
    clear x2
    obtain ⟨b, hb, hn, rfl, hj⟩ := hrel
    by_cases hlt8 : b < 8
    · have HN := Lib.hid hn
      clear hn
      have hd : decide ((b : Int) < 8) = true := by simp; omega
      go_wp2
      clear hd
      obtain ⟨wo, rfl⟩ : ∃ wo : World, wo = wr := ⟨_, rfl⟩
      go_loopg [32] 8 (fun n i wr => ∃ a : Nat, a ≤ 8 ∧ n = 8 - a ∧ i = .int .i64 a ∧ Hid (Grew [r] X wr ∧ Has wr r (.cells (tileA (foldT (shiftF T x y) (List.replicate 64 (c0, c1, c2, c3)) (placesL.take (b * 8 + a)))) 25 (0, 0))))
      case atStart => exact ⟨0, by omega, by omega, rfl, hj⟩
      case round =>
        clear hj
        obtain ⟨a, ha, hn, rfl, hj⟩ := hrel
        by_cases hla : a < 8
        · have hx : placesL[b * 8 + a]? = some ((a : Int), (b : Int)) := by
            rw [placesL_at (by omega), show (b * 8 + a) % 8 = a by omega, show (b * 8 + a) / 8 = b by omega]
          have HN2 := Lib.hid (And.intro hn hx)
          clear hn hx
          have e1 : placesL.take (b * 8 + (a + 1)) = placesL.take (b * 8 + a) ++ [((a : Int), (b : Int))] := (take_snoc HN2.out.2).symm
          have HE := Lib.hid e1
          clear e1
          cases hB : isB ((a : Int) + x) ((b : Int) + y) with
          | false =>
            have HB := Lib.hid hB
            clear hB
            go_wp2_with (fail)
            refine (ris_any _ _ _).mono ?_
            rintro e w2 ⟨he, rfl⟩
            rw [HB.out] at he
            subst he
            go_wp2
            go_roundg (8 - (a + 1))
            case measure => have := HN2.out.1; omega
            case rel =>
              refine ⟨a + 1, by omega, rfl, by go_num, Lib.hid ⟨hj.out.1, ?_⟩⟩
              rw [HE.out, foldT_snoc]
              have e2 : putT (foldT (shiftF T x y) (List.replicate 64 (c0, c1, c2, c3)) (placesL.take (b * 8 + a))) (shiftF T x y ((a : Int), (b : Int))).1.1 (shiftF T x y ((a : Int), (b : Int))).1.2 (shiftF T x y ((a : Int), (b : Int))).2 = foldT (shiftF T x y) (List.replicate 64 (c0, c1, c2, c3)) (placesL.take (b * 8 + a)) := by
                unfold putT shiftF
                simp only [HB.out]
                rfl
              rw [e2]; exact hj.out.2
          | true =>
            obtain ⟨g1, g2, g3, g4⟩ := isB_iff.1 hB
            have HB := Lib.hid hB
            clear hB
            obtain ⟨X', hX'⟩ := Int.eq_ofNat_of_zero_le g1
            obtain ⟨Y', hY'⟩ := Int.eq_ofNat_of_zero_le g3
            have hrow := (HX.out.1.1.grew hj.out.1 (by simp; omega)).row
            have hidx : 8 * (Y' : Int) + (a : Int) + x = 8 * (Y' : Int) + (X' : Int) := by omega
            have HI := Lib.hid (And.intro hX' hY')
            have y1 : X' < 8 := by omega
            have y2 : Y' < 8 := by omega
            have HB' := Lib.hid (show isB (X' : Int) (Y' : Int) = true by rw [← hX', ← hY']; exact HB.out)
            go_wp2_with (go_at_call 43; refine (ris_any _ _ _).mono ?_; rintro e w2 ⟨he, rfl⟩; rw [HB'.out] at he; subst he)
            refine (rat_any T a b _ HT.out hla hlt8).mono ?_
            rintro e w2 ⟨rfl, hb2⟩
            clear hrow
            have hF2 := hj.out.2.below hb2 hj.out.2.lt
            have hG2 := hj.out.1.trans (below_grew hb2 [r])
            obtain ⟨hp, hf⟩ := hF2.pixf (k := 8 * Y' + X') (by rw [foldT_length]; simp; omega)
            obtain ⟨c, hc⟩ : ∃ c, atT T (8 * b + a) = c := ⟨_, rfl⟩
            rw [hc]
            obtain ⟨d, hd⟩ : ∃ d, atT (foldT (shiftF T x y) (List.replicate 64 (c0, c1, c2, c3)) (placesL.take (b * 8 + a))) (8 * Y' + X') = d := ⟨_, rfl⟩
            rw [hd] at hp
            unfold PixAt at hp
            have H2 := Lib.hid (And.intro hF2 (And.intro hG2 hc))
            clear hF2 hG2 hc hd hb2
            go_wp2
            obtain ⟨hF2, hG2, hc⟩ := H2.out
            go_roundg (8 - (a + 1))
            case measure => have := HN2.out.1; omega
            case rel =>
              refine ⟨a + 1, by omega, rfl, by go_num, Lib.hid ⟨grew_putCol hG2 (.inl (by simp)) _ _ _ _, ?_⟩⟩
              rw [HE.out, foldT_snoc]
              have e2 : putT (foldT (shiftF T x y) (List.replicate 64 (c0, c1, c2, c3)) (placesL.take (b * 8 + a))) (shiftF T x y ((a : Int), (b : Int))).1.1 (shiftF T x y ((a : Int), (b : Int))).1.2 (shiftF T x y ((a : Int), (b : Int))).2 = (foldT (shiftF T x y) (List.replicate 64 (c0, c1, c2, c3)) (placesL.take (b * 8 + a))).set (8 * Y' + X') c := by
                unfold putT shiftF
                have hk : (((b : Int) + y) * 8 + ((a : Int) + x)).toNat = 8 * Y' + X' := by have := HI.out; omega
                have hk2 : ((b : Int) * 8 + (a : Int)).toNat = 8 * b + a := by omega
                simp only [HB.out, if_true, hk, hk2, hc]
              rw [e2]
              exact hF2.putCol (8 * Y' + X') (by rw [foldT_length]; simp; omega) c
        · obtain rfl : a = 8 := by omega
          clear hn
          go_wp2
          go_roundg (8 - (b + 1))
          case measure => have := HN.out; omega
          case rel => exact ⟨b + 1, by omega, rfl, by go_num, Lib.hid (by have h := hj.out; rw [show b * 8 + 8 = (b + 1) * 8 by omega] at h; exact h)⟩
    · obtain rfl : b = 8 := by omega
      obtain ⟨hG, hF⟩ := hj.out
      rw [List.take_of_length_le (by rw [placesL_length]; omega)] at hF
      obtain ⟨⟨x0, x1, b0⟩, sz⟩ := HX.out
      have y1 := x1.grew hG (by simp; omega)
      have m1 : (tileA (foldT (shiftF T x y) (List.replicate 64 (c0, c1, c2, c3)) placesL)).size = 256 := by rw [tileA_size, foldT_length]; simp
      have m2 := onesB_tile (foldT (shiftF T x y) (List.replicate 64 (c0, c1, c2, c3)) placesL)
      have e1 := hF.row
      have e2 := y1.row
      have e3 := y1.rowFree
      have bw : Below w.heap.size w wr := b0.trans (hG.below (by omega) (by simp; omega))
      have H2 := Lib.hid (And.intro y1 bw)
      clear hG hF x0 x1 b0 sz y1 bw hn l1 l2
      obtain ⟨B, hBB⟩ : ∃ B, tileA (foldT (shiftF T x y) (List.replicate 64 (c0, c1, c2, c3)) placesL) = B := ⟨_, rfl⟩
      rw [hBB] at m1 m2 e1
      have HBB := Lib.hid hBB
      clear hBB
      go_wp2
      have hr := res25 (fn := Try.f41) (p := 8) Try.results41
      refine bodyPost_ret (v := .agg B) (hr _ _ (w.heap.size + 1 + 1) 25 B (0, 0) rfl (H2.out.1.setRow B) m1) rfl ⟨by rw [← HBB.out], below_setRow H2.out.2 (by omega) _⟩

theorem rshift_any (T : List Col) (x y : Int) (c : Col) (w : World) (hT : T.length = 64) :
    Calls Try.prog 41 #[.agg (tileA T), .int .i64 x, .int .i64 y, colV c] w fun e w' => e = .returned (.agg (tileA (moveT T c (fun u v => (u + clampZ x, v + clampZ y))))) ∧ Below w.heap.size w w' := by
  by_cases h : -8 ≤ x ∧ x ≤ 8 ∧ -8 ≤ y ∧ y ≤ 8
  · have e : moveT T c (fun u v => (u + clampZ x, v + clampZ y)) = foldT (shiftF T x y) (List.replicate 64 c) placesL := by
      rw [clampZ_in h.1 h.2.1, clampZ_in h.2.2.1 h.2.2.2]; rfl
    rw [e]
    exact rshift_in T x y c w hT h.1 h.2.1 h.2.2.1 h.2.2.2
  · exact rshift_no T x y c w h
end Go.Proofs.Ytedckelfdkfkoaa
