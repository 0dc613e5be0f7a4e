/- Walks: the document's tiles: Flip, Turn. -/
import Derived.Test.YtedckelfdkfkoaaE
namespace Go.Proofs.Ytedckelfdkfkoaa
open Go.RowKit Go.Shelf
attribute [local go_sem] Oper.semAt_some
attribute [local go_sem 2000] run_col run_tile
attribute [local go_sem ↓] zero25 build25 build176z build176 load25 store25
attribute [local go_sem] rowAt_alloc rowFree_alloc rowAt_drew rowFree_drew zeroA_size zc176 zeroA_ones blkOf_ptr aggOf_agg

/-- the tile of which the first k places are flipped -/
def flipF (T : List Col) (p : Int × Int) : (Int × Int) × Col := ((7 - p.1, p.2), atT T (p.2 * 8 + p.1).toNat)
theorem flipF_fold (T : List Col) : foldT (flipF T) blankT placesL = moveT T z0 (fun x y => (7 - x, y)) := rfl
def turnF (T : List Col) (p : Int × Int) : (Int × Int) × Col := ((7 - p.2, p.1), atT T (p.2 * 8 + p.1).toNat)
theorem turnF_fold (T : List Col) : foldT (turnF T) blankT placesL = turnT T := rfl

set_option maxRecDepth 100000 in
set_option maxHeartbeats 1000000 in
theorem rflip_any (T : List Col) (w : World) (hT : T.length = 64) :
    Calls Try.prog 37 #[.agg (tileA T)] w fun e w' => e = .returned (.agg (tileA (moveT T z0 (fun x y => (7 - x, y))))) ∧ Below w.heap.size w w' := by
  rw [← flipF_fold]
  have hs : (tileA T).size = 256 := by rw [tileA_size, hT]
  have HT := Lib.hid hT
  clear hT
  go_enter Try.func37, Try.ntmps37
  go_wp2
  generalize hX : World.alloc _ _ = X
  have sz : X.heap.size = w.heap.size + 3 := by rw [← hX]; simp
  have x0 : Has X w.heap.size (.cells (tileA T) 25 (0, 0)) := by rw [← hX]; exact ((Has.new' (by simp)).alloc _).alloc _
  have x1 : Has X (w.heap.size + 1) (.cells zeroA 25 (0, 0)) := by rw [← hX]; exact (Has.new' (by simp)).alloc _
  have x2 : Has X (w.heap.size + 1 + 1) (.cells (tileA blankT) 25 (0, 0)) := by rw [← hX]; exact Has.new' (by simp)
  have b0 : Below w.heap.size w X := by rw [← hX]; repeat (first | exact Below.refl _ _ | refine Below.alloc ?_ (by simp <;> omega) _)
  clear hX
  have HX := Lib.hid (And.intro x0 (And.intro x1 (And.intro b0 sz)))
  go_loopg [6] 8 (fun n i wr => ∃ b : Nat, b ≤ 8 ∧ n = 8 - b ∧ i = .int .i64 b ∧ Hid (Grew [w.heap.size + 1 + 1] X wr ∧ Has wr (w.heap.size + 1 + 1) (.cells (tileA (foldT (flipF T) blankT (placesL.take (b * 8)))) 25 (0, 0))))
  case atStart => exact ⟨0, by omega, by omega, rfl, Lib.hid ⟨Grew.refl _ _, x2⟩⟩
  case round =>
    clear x0 x1 x2 b0 sz
    obtain ⟨b, hb, hn, rfl, hj⟩ := hrel
    by_cases hlt : b < 8
    · have HN := Lib.hid hn
      clear hn
      have hd : decide ((b : Int) < 8) = true := by simp; omega
      go_wp2
      clear hd
      obtain ⟨wo, rfl⟩ : ∃ wo : World, wo = wr := ⟨_, rfl⟩
      go_loopg [9] 8 (fun n i wr => ∃ a : Nat, a ≤ 8 ∧ n = 8 - a ∧ i = .int .i64 a ∧ Hid (Grew [w.heap.size + 1 + 1] X wr ∧ Has wr (w.heap.size + 1 + 1) (.cells (tileA (foldT (flipF T) blankT (placesL.take (b * 8 + a)))) 25 (0, 0))))
      case atStart => exact ⟨0, by omega, by omega, rfl, hj⟩
      case round =>
        clear hj
        obtain ⟨a, ha, hn, rfl, hj⟩ := hrel
        by_cases hla : a < 8
        · have hx : placesL[b * 8 + a]? = some ((a : Int), (b : Int)) := by
            rw [placesL_at (by omega), show (b * 8 + a) % 8 = a by omega, show (b * 8 + a) / 8 = b by omega]
          have HN2 := Lib.hid (And.intro hn hx)
          clear hn hx
          have hrow := (HX.out.1.grew hj.out.1 (by simp <;> omega)).row
          go_wp2_with (fail)
          refine (rat_any T a b _ HT.out hla hlt).mono ?_
          rintro e w2 ⟨rfl, hb2⟩
          clear hrow
          have hF2 := hj.out.2.below hb2 hj.out.2.lt
          have hG2 := hj.out.1.trans (below_grew hb2 [w.heap.size + 1 + 1])
          obtain ⟨hp, hf⟩ := hF2.pixf (k := 8 * b + 7 - a) (by rw [foldT_length, blankT_length]; omega)
          obtain ⟨c, hc⟩ : ∃ c, atT T (8 * b + a) = c := ⟨_, rfl⟩
          rw [hc]
          obtain ⟨d, hd⟩ : ∃ d, atT (foldT (flipF T) blankT (placesL.take (b * 8 + a))) (8 * b + 7 - a) = d := ⟨_, rfl⟩
          rw [hd] at hp
          unfold PixAt at hp
          have H2 := Lib.hid (And.intro hF2 (And.intro hG2 hc))
          clear hF2 hG2 hc hd hb2
          go_wp2
          obtain ⟨hF2, hG2, hc⟩ := H2.out
          go_roundg (8 - (a + 1))
          case measure => have := HN2.out.1; omega
          case rel =>
            refine ⟨a + 1, by omega, rfl, by go_num, Lib.hid ⟨grew_putCol hG2 (.inl (by simp)) _ _ _ _, ?_⟩⟩
            have e1 : placesL.take (b * 8 + (a + 1)) = placesL.take (b * 8 + a) ++ [((a : Int), (b : Int))] := (take_snoc HN2.out.2).symm
            rw [e1, foldT_snoc]
            have e2 : putT (foldT (flipF T) blankT (placesL.take (b * 8 + a))) (flipF T ((a : Int), (b : Int))).1.1 (flipF T ((a : Int), (b : Int))).1.2 (flipF T ((a : Int), (b : Int))).2 = (foldT (flipF T) blankT (placesL.take (b * 8 + a))).set (8 * b + 7 - a) c := by
              unfold putT flipF
              have hi : isB (7 - (a : Int)) (b : Int) = true := isB_iff.2 (by omega)
              have hk : (((b : Int) : Int) * 8 + (7 - (a : Int))).toNat = 8 * b + 7 - a := by omega
              have hk2 : ((b : Int) * 8 + (a : Int)).toNat = 8 * b + a := by omega
              simp only [hi, if_true, hk, hk2, hc]
            rw [e2]
            exact hF2.putCol (8 * b + 7 - a) (by rw [foldT_length, blankT_length]; omega) c
        · obtain rfl : a = 8 := by omega
          clear hn
          go_wp2
          go_roundg (8 - (b + 1))
          case measure => have := HN.out; omega
          case rel => exact ⟨b + 1, by omega, rfl, by go_num, Lib.hid (by have h := hj.out; rw [show b * 8 + 8 = (b + 1) * 8 by omega] at h; exact h)⟩
    · obtain rfl : b = 8 := by omega
      obtain ⟨hG, hF⟩ := hj.out
      rw [List.take_of_length_le (by rw [placesL_length]; omega)] at hF
      obtain ⟨x0, x1, b0, sz⟩ := HX.out
      have y1 := x1.grew hG (by simp <;> omega)
      have l1 : (tileA (foldT (flipF T) blankT placesL)).size = 256 := by rw [tileA_size, foldT_length, blankT_length]
      have l2 := onesB_tile (foldT (flipF T) blankT placesL)
      have e1 := hF.row
      have e2 := y1.row
      have e3 := y1.rowFree
      have bw : Below w.heap.size w wr := b0.trans (hG.below (by omega) (by simp; omega))
      have H2 := Lib.hid (And.intro y1 bw)
      clear hG hF x0 x1 b0 sz y1 bw hn
      generalize hA : tileA (foldT (flipF T) blankT placesL) = A at *
      have HA := Lib.hid hA
      clear hA
      go_wp2
      have hr := res25 (fn := Try.f37) (p := 2) Try.results37
      refine bodyPost_ret (v := .agg A) (hr _ _ (w.heap.size + 1) 25 A (0, 0) rfl (H2.out.1.setRow A) l1) rfl ⟨by rw [← HA.out], below_setRow H2.out.2 (by omega) _⟩

set_option maxRecDepth 100000 in
set_option maxHeartbeats 1000000 in
theorem rturn_any (T : List Col) (w : World) (hT : T.length = 64) :
    Calls Try.prog 136 #[.agg (tileA T)] w fun e w' => e = .returned (.agg (tileA (turnT T))) ∧ Below w.heap.size w w' := by
  rw [← turnF_fold]
  have hs : (tileA T).size = 256 := by rw [tileA_size, hT]
  have HT := Lib.hid hT
  clear hT
  go_enter Try.func136, Try.ntmps136
  go_wp2
  generalize hX : World.alloc _ _ = X
  have sz : X.heap.size = w.heap.size + 3 := by rw [← hX]; simp
  have x0 : Has X w.heap.size (.cells (tileA T) 25 (0, 0)) := by rw [← hX]; exact ((Has.new' (by simp)).alloc _).alloc _
  have x1 : Has X (w.heap.size + 1) (.cells zeroA 25 (0, 0)) := by rw [← hX]; exact (Has.new' (by simp)).alloc _
  have x2 : Has X (w.heap.size + 1 + 1) (.cells (tileA blankT) 25 (0, 0)) := by rw [← hX]; exact Has.new' (by simp)
  have b0 : Below w.heap.size w X := by rw [← hX]; repeat (first | exact Below.refl _ _ | refine Below.alloc ?_ (by simp <;> omega) _)
  clear hX
  have HX := Lib.hid (And.intro x0 (And.intro x1 (And.intro b0 sz)))
  go_loopg [6] 8 (fun n i wr => ∃ b : Nat, b ≤ 8 ∧ n = 8 - b ∧ i = .int .i64 b ∧ Hid (Grew [w.heap.size + 1 + 1] X wr ∧ Has wr (w.heap.size + 1 + 1) (.cells (tileA (foldT (turnF T) blankT (placesL.take (b * 8)))) 25 (0, 0))))
  case atStart => exact ⟨0, by omega, by omega, rfl, Lib.hid ⟨Grew.refl _ _, x2⟩⟩
  case round =>
    clear x0 x1 x2 b0 sz
    obtain ⟨b, hb, hn, rfl, hj⟩ := hrel
    by_cases hlt : b < 8
    · have HN := Lib.hid hn
      clear hn
      have hd : decide ((b : Int) < 8) = true := by simp; omega
      go_wp2
      clear hd
      obtain ⟨wo, rfl⟩ : ∃ wo : World, wo = wr := ⟨_, rfl⟩
      go_loopg [9] 8 (fun n i wr => ∃ a : Nat, a ≤ 8 ∧ n = 8 - a ∧ i = .int .i64 a ∧ Hid (Grew [w.heap.size + 1 + 1] X wr ∧ Has wr (w.heap.size + 1 + 1) (.cells (tileA (foldT (turnF T) blankT (placesL.take (b * 8 + a)))) 25 (0, 0))))
      case atStart => exact ⟨0, by omega, by omega, rfl, hj⟩
      case round =>
        clear hj
        obtain ⟨a, ha, hn, rfl, hj⟩ := hrel
        by_cases hla : a < 8
        · have hx : placesL[b * 8 + a]? = some ((a : Int), (b : Int)) := by
            rw [placesL_at (by omega), show (b * 8 + a) % 8 = a by omega, show (b * 8 + a) / 8 = b by omega]
          have HN2 := Lib.hid (And.intro hn hx)
          clear hn hx
          have hrow := (HX.out.1.grew hj.out.1 (by simp <;> omega)).row
          go_wp2_with (fail)
          refine (rat_any T a b _ HT.out hla hlt).mono ?_
          rintro e w2 ⟨rfl, hb2⟩
          clear hrow
          have hF2 := hj.out.2.below hb2 hj.out.2.lt
          have hG2 := hj.out.1.trans (below_grew hb2 [w.heap.size + 1 + 1])
          obtain ⟨hp, hf⟩ := hF2.pixf (k := 8 * a + 7 - b) (by rw [foldT_length, blankT_length]; omega)
          obtain ⟨c, hc⟩ : ∃ c, atT T (8 * b + a) = c := ⟨_, rfl⟩
          rw [hc]
          obtain ⟨d, hd⟩ : ∃ d, atT (foldT (turnF T) blankT (placesL.take (b * 8 + a))) (8 * a + 7 - b) = d := ⟨_, rfl⟩
          rw [hd] at hp
          unfold PixAt at hp
          have H2 := Lib.hid (And.intro hF2 (And.intro hG2 hc))
          clear hF2 hG2 hc hd hb2
          go_wp2
          obtain ⟨hF2, hG2, hc⟩ := H2.out
          go_roundg (8 - (a + 1))
          case measure => have := HN2.out.1; omega
          case rel =>
            refine ⟨a + 1, by omega, rfl, by go_num, Lib.hid ⟨grew_putCol hG2 (.inl (by simp)) _ _ _ _, ?_⟩⟩
            have e1 : placesL.take (b * 8 + (a + 1)) = placesL.take (b * 8 + a) ++ [((a : Int), (b : Int))] := (take_snoc HN2.out.2).symm
            rw [e1, foldT_snoc]
            have e2 : putT (foldT (turnF T) blankT (placesL.take (b * 8 + a))) (turnF T ((a : Int), (b : Int))).1.1 (turnF T ((a : Int), (b : Int))).1.2 (turnF T ((a : Int), (b : Int))).2 = (foldT (turnF T) blankT (placesL.take (b * 8 + a))).set (8 * a + 7 - b) c := by
              unfold putT turnF
              have hi : isB (7 - (b : Int)) (a : Int) = true := isB_iff.2 (by omega)
              have hk : (((a : Int) : Int) * 8 + (7 - (b : Int))).toNat = 8 * a + 7 - b := by omega
              have hk2 : ((b : Int) * 8 + (a : Int)).toNat = 8 * b + a := by omega
              simp only [hi, if_true, hk, hk2, hc]
            rw [e2]
            exact hF2.putCol (8 * a + 7 - b) (by rw [foldT_length, blankT_length]; omega) c
        · obtain rfl : a = 8 := by omega
          clear hn
          go_wp2
          go_roundg (8 - (b + 1))
          case measure => have := HN.out; omega
          case rel => exact ⟨b + 1, by omega, rfl, by go_num, Lib.hid (by have h := hj.out; rw [show b * 8 + 8 = (b + 1) * 8 by omega] at h; exact h)⟩
    · obtain rfl : b = 8 := by omega
      obtain ⟨hG, hF⟩ := hj.out
      rw [List.take_of_length_le (by rw [placesL_length]; omega)] at hF
      obtain ⟨x0, x1, b0, sz⟩ := HX.out
      have y1 := x1.grew hG (by simp <;> omega)
      have l1 : (tileA (foldT (turnF T) blankT placesL)).size = 256 := by rw [tileA_size, foldT_length, blankT_length]
      have l2 := onesB_tile (foldT (turnF T) blankT placesL)
      have e1 := hF.row
      have e2 := y1.row
      have e3 := y1.rowFree
      have bw : Below w.heap.size w wr := b0.trans (hG.below (by omega) (by simp; omega))
      have H2 := Lib.hid (And.intro y1 bw)
      clear hG hF x0 x1 b0 sz y1 bw hn
      generalize hA : tileA (foldT (turnF T) blankT placesL) = A at *
      have HA := Lib.hid hA
      clear hA
      go_wp2
      have hr := res25 (fn := Try.f136) (p := 2) Try.results136
      refine bodyPost_ret (v := .agg A) (hr _ _ (w.heap.size + 1) 25 A (0, 0) rfl (H2.out.1.setRow A) l1) rfl ⟨by rw [← HA.out], below_setRow H2.out.2 (by omega) _⟩

set_option maxRecDepth 100000 in
set_option maxHeartbeats 1000000 in
theorem rturns_any (T : List Col) (q : Int) (w : World) (hT : T.length = 64) :
    Calls Try.prog 39 #[.agg (tileA T), .int .i64 q] w fun e w' => e = .returned (.agg (tileA (turnsT (quartN q) T))) ∧ Below w.heap.size w w' := by
  obtain ⟨q1, q2⟩ := tmod4 q
  have hq' : ((q.tmod 4 + 4) % 4 : Int) = (quartN q : Int) := by unfold quartN; omega
  have hq3 : quartN q ≤ 3 := by unfold quartN; omega
  obtain ⟨N, hN⟩ : ∃ N, quartN q = N := ⟨_, rfl⟩
  rw [hN] at hq' hq3 ⊢
  have HQ := Lib.hid hq'
  clear hq'
  clear hN
  have hs : (tileA T).size = 256 := by rw [tileA_size, hT]
  obtain ⟨R, hR⟩ : ∃ R, turnsT N T = R := ⟨_, rfl⟩
  have HR := Lib.hid (And.intro hR hT)
  rw [hR]
  clear hT hR
  go_enter Try.func39, Try.ntmps39
  go_wp2
  generalize hX : World.alloc _ _ = X
  have x0 : Has X w.heap.size (.cells (tileA T) 25 (0, 0)) := by rw [← hX]; exact (Has.new' (by simp)).alloc _
  have x1 : Has X (w.heap.size + 1) (.cells zeroA 25 (0, 0)) := by rw [← hX]; exact Has.new' (by simp)
  have b0 : Below w.heap.size w X := by rw [← hX]; repeat (first | exact Below.refl _ _ | refine Below.alloc ?_ (by simp <;> omega) _)
  rw [HQ.out]
  clear hX q1 q2
  go_loopg [9] N (fun n i wr => ∃ (k : Nat) (T' : List Col), k ≤ N ∧ n = N - k ∧ i = .int .i64 k ∧ Hid (T'.length = 64 ∧ turnsT (N - k) T' = R ∧ Has wr w.heap.size (.cells (tileA T') 25 (0, 0)) ∧ Has wr (w.heap.size + 1) (.cells zeroA 25 (0, 0)) ∧ Below w.heap.size w wr))
  case atStart => exact ⟨0, T, by omega, by omega, rfl, Lib.hid ⟨HR.out.2, HR.out.1, x0, x1, b0⟩⟩
  case round =>
    clear x0 x1 b0
    obtain ⟨k, T', hk, hn, rfl, hj⟩ := hrel
    have hs' : (tileA T').size = 256 := by rw [tileA_size, hj.out.1]
    have ho' := onesB_tile T'
    have e0 := hj.out.2.2.1.row
    have f0 := hj.out.2.2.1.rowFree
    have e1 := hj.out.2.2.2.1.row
    have f1 := hj.out.2.2.2.1.rowFree
    by_cases hlt : k < N
    · have HN := Lib.hid hn
      clear hn
      have l1 : (tileA (turnT T')).size = 256 := by unfold turnT; rw [tileA_size, moveT_length]
      have l2 := onesB_tile (turnT T')
      go_wp2_with (fail)
      refine (rturn_any T' _ hj.out.1).mono ?_
      rintro e w1 ⟨rfl, hb1⟩
      obtain ⟨h1, h2, h3, h4, h5⟩ := hj.out
      have k0 := h3.below hb1 h3.lt
      have k1 := h4.below hb1 h4.lt
      have b1 := h5.trans (hb1.mono h5.size)
      have e0' := k0.row
      have f0' := k0.rowFree
      have H2 := Lib.hid (And.intro k0 (And.intro k1 b1))
      clear k0 k1 b1 hb1 e0 f0 e1 f1 h1 h2 h3 h4 h5
      obtain ⟨A, hA⟩ : ∃ A, tileA (turnT T') = A := ⟨_, rfl⟩
      rw [hA] at l1 l2 ⊢
      have HA := Lib.hid hA
      clear hA
      go_wp2
      go_roundg (N - (k + 1))
      case measure => have := HN.out; omega
      case rel =>
        refine ⟨k + 1, turnT T', hlt, rfl, by go_num, Lib.hid ⟨moveT_length _ _ _, ?_, ?_, H2.out.2.1.setRow_other _ (by omega), below_setRow H2.out.2.2 (Nat.le_refl _) _⟩⟩
        · have h2 := hj.out.2.1
          rw [show N - k = (N - (k + 1)) + 1 by omega] at h2
          exact h2
        · rw [HA.out]; exact H2.out.1.setRow A
    · obtain rfl : k = N := by omega
      obtain ⟨h1, h2, h3, h4, h5⟩ := hj.out
      rw [Nat.sub_self] at h2
      have hR' : T' = R := h2
      subst hR'
      have H := Lib.hid (And.intro h4 h5)
      clear h1 h2 h3 h4 h5 HR hn hj
      generalize hA : tileA T' = A at *
      have HA := Lib.hid hA
      clear hA
      go_wp2
      have hr := res25 (fn := Try.f39) (p := 4) Try.results39
      refine bodyPost_ret (v := .agg A) (hr _ _ (w.heap.size + 1) 25 A (0, 0) rfl (H.out.1.setRow A) hs') rfl ⟨by rw [← HA.out], below_setRow H.out.2 (by omega) _⟩

/-- the tile of one colour, of the first k places -/
def newTk (c : Col) (k : Nat) : List Col := (List.range k).foldl (fun T i => T.set i c) blankT
theorem newTk_length (c : Col) : ∀ k, (newTk c k).length = 64
  | 0 => blankT_length
  | k + 1 => by unfold newTk; rw [List.range_succ, List.foldl_append]; show ((newTk c k).set k c).length = 64; rw [List.length_set, newTk_length c k]
theorem newTk_succ (c : Col) (k : Nat) : newTk c (k + 1) = (newTk c k).set k c := by unfold newTk; rw [List.range_succ, List.foldl_append]; rfl
theorem newTk_all (c : Col) : newTk c 64 = List.replicate 64 c := by kernel_rfl
set_option maxRecDepth 100000 in
set_option maxHeartbeats 1000000 in
theorem rnew_any (c : Col) (w : World) : Calls Try.prog 47 #[colV c] w fun e w' => e = .returned (.agg (tileA (List.replicate 64 c))) ∧ Below w.heap.size w w' := by
  rw [← newTk_all]
  obtain ⟨c0, c1, c2, c3⟩ := c
  go_enter Try.func47, Try.ntmps47
  go_wp2
  generalize hX : World.alloc _ _ = X
  have sz : X.heap.size = w.heap.size + 3 := by rw [← hX]; simp
  have x0 : Has X w.heap.size (.cells #[.int .u8 c0, .int .u8 c1, .int .u8 c2, .int .u8 c3] 23 (0, 0)) := by rw [← hX]; exact ((Has.new' (by simp)).alloc _).alloc _
  have x1 : Has X (w.heap.size + 1) (.cells zeroA 25 (0, 0)) := by rw [← hX]; exact (Has.new' (by simp)).alloc _
  have x2 : Has X (w.heap.size + 1 + 1) (.cells (tileA (newTk (c0, c1, c2, c3) 0)) 25 (0, 0)) := by rw [← hX]; exact Has.new' (by simp)
  have b0 : Below w.heap.size w X := by rw [← hX]; repeat (first | exact Below.refl _ _ | refine Below.alloc ?_ (by simp <;> omega) _)
  clear hX
  have HX := Lib.hid (And.intro x0 (And.intro x1 (And.intro b0 sz)))
  go_loopg [5] 64 (fun n i wr => ∃ k : Nat, k ≤ 64 ∧ n = 64 - k ∧ i = .int .i64 k ∧ Hid (Grew [w.heap.size + 1 + 1] X wr ∧ Has wr (w.heap.size + 1 + 1) (.cells (tileA (newTk (c0, c1, c2, c3) k)) 25 (0, 0))))
  case atStart => exact ⟨0, by omega, by omega, rfl, Lib.hid ⟨Grew.refl _ _, x2⟩⟩
  case round =>
    clear x0 x1 x2 b0 sz
    obtain ⟨k, hk, hn, rfl, hj⟩ := hrel
    by_cases hlt : k < 64
    · have HN := Lib.hid hn
      clear hn
      obtain ⟨hp, hf⟩ := hj.out.2.pixf (k := k) (by rw [newTk_length]; omega)
      have hc := (HX.out.1.grew hj.out.1 (by simp <;> omega)).four
      obtain ⟨d, hd⟩ : ∃ d, atT (newTk (c0, c1, c2, c3) k) k = d := ⟨_, rfl⟩
      rw [hd] at hp
      unfold PixAt at hp
      clear hd
      go_wp2
      go_roundg (64 - (k + 1))
      case measure => have := HN.out; omega
      case rel =>
        refine ⟨k + 1, hlt, rfl, by go_num, Lib.hid ⟨grew_putCol hj.out.1 (.inl (by simp)) _ _ _ _, ?_⟩⟩
        rw [newTk_succ]
        exact hj.out.2.putCol k (by rw [newTk_length]; omega) (c0, c1, c2, c3)
    · obtain rfl : k = 64 := by omega
      obtain ⟨hG, hF⟩ := hj.out
      obtain ⟨x0, x1, b0, sz⟩ := HX.out
      have y1 := x1.grew hG (by simp <;> omega)
      have l1 : (tileA (newTk (c0, c1, c2, c3) 64)).size = 256 := by rw [tileA_size, newTk_length]
      have l2 := onesB_tile (newTk (c0, c1, c2, c3) 64)
      have e1 := hF.row
      have e2 := y1.row
      have e3 := y1.rowFree
      have bw : Below w.heap.size w wr := b0.trans (hG.below (by omega) (by simp; omega))
      have H2 := Lib.hid (And.intro y1 bw)
      clear hG hF x0 x1 b0 sz y1 bw hn
      generalize hA : tileA (newTk (c0, c1, c2, c3) 64) = A at *
      have HA := Lib.hid hA
      clear hA
      go_wp2
      have hr := res25 (fn := Try.f47) (p := 2) Try.results47
      refine bodyPost_ret (v := .agg A) (hr _ _ (w.heap.size + 1) 25 A (0, 0) rfl (H2.out.1.setRow A) l1) rfl ⟨by rw [← HA.out], below_setRow H2.out.2 (by omega) _⟩
end Go.Proofs.Ytedckelfdkfkoaa
