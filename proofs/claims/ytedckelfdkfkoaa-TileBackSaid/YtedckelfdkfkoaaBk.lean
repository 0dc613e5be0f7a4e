/- The law TileBack: flipped twice a tile is as it was; turned there and back; counts stay. -/
import Derived.Test.YtedckelfdkfkoaaO
import Derived.Test.YtedckelfdkfkoaaWk
import Derived.Test.YtedckelfdkfkoaaPk
import Derived.Test.YtedckelfdkfkoaaSi
import Derived.Test.YtedckelfdkfkoaaJ
namespace Go.Proofs.Ytedckelfdkfkoaa
open Go.RowKit Go.Shelf
attribute [local go_sem] Oper.semAt_some
attribute [local go_sem 2000] run_col run_tile
attribute [local go_sem] colB_self
attribute [local go_sem ↓] Go.wp_at_zero Go.wp_at_succ
attribute [local go_sem ↓] zero25 build25 build176z build176 load25 store25
attribute [local go_sem] rowAt_alloc rowFree_alloc rowAt_drew rowFree_drew rowAt_alloc_map zeroA_size zc176 zeroA_ones blkOf_ptr aggOf_agg

set_option maxRecDepth 100000 in
set_option maxHeartbeats 2000000 in
theorem back_law (T : List Col) (q : Int) (w : World) (hT : T.length = 64) (hb : ∀ c ∈ T, ByC c) :
    Calls Try.prog 6 #[.agg (tileA T), .int .i64 q] w fun e w' => e = .returned (.bool true) ∧ Below w.heap.size w w' := by
  have hs : (tileA T).size = 256 := by rw [tileA_size, hT]
  obtain ⟨q', hq'⟩ : ∃ q', q.tmod 1000 = q' := ⟨_, rfl⟩
  have hq1 : -1000 < q' ∧ q' < 1000 := by
    rw [← hq']
    have h1 := Int.tmod_lt_of_pos q (show (0 : Int) < 1000 by omega)
    rcases Int.le_total 0 q with h | h
    · have := Int.tmod_nonneg 1000 h; omega
    · have h3 := Int.tmod_lt_of_pos (-q) (show (0 : Int) < 1000 by omega)
      have h4 := Int.tmod_nonneg 1000 (show 0 ≤ -q by omega)
      rw [Int.neg_tmod] at h3 h4
      omega
  obtain ⟨hqa, hqb⟩ := hq1
  have HQ := Lib.hid hq'
  have HB := Lib.hid hb
  clear hq' hb
  go_enter Try.func6, Try.ntmps6
  go_wp2_with (go_at_call 24; refine (wakes4_any _).mono ?_; rintro e w1 ⟨rfl, hb1⟩)
  have x0 := (Has.new w (.cells (tileA T) 25 (0, 0))).below hb1 (Has.new _ _).lt
  have b1 := ((Below.refl w.heap.size w).alloc (by simp) (.cells (tileA T) 25)).trans (hb1.mono (by simp))
  have e0 := x0.row
  rw [HQ.out]
  have S0 := Lib.hid (And.intro x0 b1)
  clear x0 b1 hb1
  go_wp2_with (fail)
  refine (turn_any T q' _ hT).mono ?_
  rintro e w2 ⟨rfl, b2⟩
  obtain ⟨U, hU⟩ : ∃ U, turnsT (quartN q') T = U := ⟨_, rfl⟩
  rw [hU]
  have lU : U.length = 64 := by rw [← hU]; exact turnsT_length _ _ hT
  have f1 : turnsT (quartN (-q')) U = T := by rw [← hU]; exact turns_back hT (quart_neg q')
  have f2 : turnsT (quartN 4) U = U := by rw [quart4]; rfl
  have f3 : flipT U = turnsT (quartN (-q')) (flipT T) := by rw [← hU]; exact flip_turns hT (quart_neg q')
  have f4 : U.Perm T := by rw [← hU]; exact turnsT_same _ T hT
  have F := Lib.hid (And.intro f1 (And.intro f2 (And.intro f3 f4)))
  clear hU f1 f2 f3 f4 e0
  have x0 := S0.out.1.below b2 S0.out.1.lt
  have b2' := S0.out.2.trans (b2.mono S0.out.2.size)
  have e0 := x0.row
  have l0 := x0.lt
  have hsU : (tileA U).size = 256 := by rw [tileA_size, lU]
  have oU := onesB_tile U
  obtain ⟨A, hA⟩ : ∃ A, tileA U = A := ⟨_, rfl⟩
  rw [hA] at hsU oU ⊢
  have HA := Lib.hid hA
  have S1 := Lib.hid (And.intro x0 b2')
  clear hA x0 b2' b2
  go_wp2
  obtain rfl := HA.out
  generalize hX : World.setRow _ _ _ = X
  have sz : X.heap.size = w2.heap.size + 1 := by rw [← hX]; simp
  have x0 : Has X w.heap.size (.cells (tileA T) 25 (0, 0)) := by rw [← hX]; exact (S1.out.1.alloc _).setRow_other _ (by omega)
  have x1 : Has X w2.heap.size (.cells (tileA U) 25 (0, 0)) := by rw [← hX]; exact (Has.new' (o := .cells zeroA 25) (by simp)).setRow _
  have b3 : Below w.heap.size w X := by rw [← hX]; exact below_setRow (S1.out.2.alloc S1.out.2.size _) (by omega) _
  clear hX e0 oU HA S1 S0
  have R0 := Lib.hid x0.rowS
  have R1 := Lib.hid x1.rowS
  have HX := Lib.hid (And.intro x0 (And.intro x1 b3))
  clear x0 x1 b3
  have HF := Lib.hid (flip_flip hT)
  have n1 : IntKind.i64.wrap (-q') = -q' := IntWalk.i64_in _ (by omega)
  have eT : decide (T = T) = true := by simp
  have eU : decide (U = U) = true := by simp
  refine wp_region_sched [(0, false), (3, false), (1, true), (2, true), (4, false), (5, false), (6, false), (7, false), (8, false), (10, false), (9, true), (11, false), (12, false), (13, false), (14, false), (16, false), (15, true), (17, false), (18, false), (19, false), (20, false), (22, false), (24, false), (25, false), (21, true), (23, true), (26, true), (27, false), (28, false)] (Since X) (by kernel_rfl) (by kernel_rfl) (Since.refl X).drew ?_
  repeat (refine sched_pure (v := ?_) rfl rfl ?_ ?_; rotate_left; (focus (intro Y hY; first | (refine (exec_tile (R0.out Y hY) hs rfl).trans ?_; with_reducible rfl) | (refine (exec_tile (R1.out Y hY) hsU rfl).trans ?_; with_reducible rfl) | (go_simp; try with_reducible rfl))); go_simp; try go_bits)
  refine sched_act rfl rfl ?_
  go_simp
  refine (flipT_any T _ hT).mono ?_
  rintro e v1 ⟨rfl, g1⟩
  have k1 : Since X v1 := (Since.refl X).drew.step g1
  refine ⟨k1, ?_⟩
  refine sched_act rfl rfl ?_
  go_simp
  refine (flipT_any (flipT T) _ (flipT_length T)).mono ?_
  rintro e v2 ⟨rfl, g2⟩
  rw [HF.out]
  have k2 := k1.step g2
  refine ⟨k2, ?_⟩
  repeat (refine sched_pure (v := ?_) rfl rfl ?_ ?_; rotate_left; (focus (intro Y hY; first | (refine (exec_tile (R0.out Y hY) hs rfl).trans ?_; with_reducible rfl) | (refine (exec_tile (R1.out Y hY) hsU rfl).trans ?_; with_reducible rfl) | (go_simp; try with_reducible rfl))); go_simp; try go_bits)

  refine sched_act rfl rfl ?_
  go_simp
  refine (turn_any U (-q') _ lU).mono ?_
  rintro e v3 ⟨rfl, g3⟩
  rw [F.out.1]
  have k3 := k2.step g3
  refine ⟨k3, ?_⟩
  repeat (refine sched_pure (v := ?_) rfl rfl ?_ ?_; rotate_left; (focus (intro Y hY; first | (refine (exec_tile (R0.out Y hY) hs rfl).trans ?_; with_reducible rfl) | (refine (exec_tile (R1.out Y hY) hsU rfl).trans ?_; with_reducible rfl) | (go_simp; try with_reducible rfl))); go_simp; try go_bits)
  refine sched_act rfl rfl ?_
  go_simp
  refine (turn_any U 4 _ lU).mono ?_
  rintro e v4 ⟨rfl, g4⟩
  rw [F.out.2.1]
  have k4 := k3.step g4
  refine ⟨k4, ?_⟩
  repeat (refine sched_pure (v := ?_) rfl rfl ?_ ?_; rotate_left; (focus (intro Y hY; first | (refine (exec_tile (R0.out Y hY) hs rfl).trans ?_; with_reducible rfl) | (refine (exec_tile (R1.out Y hY) hsU rfl).trans ?_; with_reducible rfl) | (go_simp; try with_reducible rfl))); go_simp; try go_bits)
  refine sched_act rfl rfl ?_
  go_simp
  refine (flipT_any U _ lU).mono ?_
  rintro e v5 ⟨rfl, g5⟩
  have k5 := k4.step g5
  refine ⟨k5, ?_⟩
  refine sched_act rfl rfl ?_
  go_simp
  refine (flipT_any T _ hT).mono ?_
  rintro e v6 ⟨rfl, g6⟩
  have k6 := k5.step g6
  refine ⟨k6, ?_⟩
  refine sched_act rfl rfl ?_
  go_simp
  refine (turn_any (flipT T) (-q') _ (flipT_length T)).mono ?_
  rintro e v7 ⟨rfl, g7⟩
  rw [← F.out.2.2.1]
  have k7 := k6.step g7
  refine ⟨k7, ?_⟩
  have lF := flipT_length U
  repeat (refine sched_pure (v := ?_) rfl rfl ?_ ?_; rotate_left; (focus (intro Y hY; first | (refine (exec_tile (R0.out Y hY) hs rfl).trans ?_; with_reducible rfl) | (refine (exec_tile (R1.out Y hY) hsU rfl).trans ?_; with_reducible rfl) | (go_simp; try with_reducible rfl))); go_simp; try go_bits)
  refine sched_end ?_
  have K7 := Lib.hid k7
  have e0 := (HX.out.1.since k7).row
  clear k1 k2 k3 k4 k5 k6 k7 g1 g2 g3 g4 g5 g6 g7 eT eU n1
  go_wp2_with (fail)
  refine (colors_any T _ hT HB.out).mono ?_
  rintro e v8 ⟨a8, cap8, rfl, r8, b8⟩
  have hmem := fun c => (firstsL_sub T c).1
  have n8 := firstsL_le T
  rw [hT] at n8
  obtain ⟨L, hL⟩ : ∃ L, firstsL T = L := ⟨_, rfl⟩
  rw [hL] at r8 n8 hmem ⊢
  generalize hm : L.length = m at *
  have k8 := K7.out.step b8
  have R8 := Lib.hid (And.intro hL (And.intro hm (And.intro r8 (And.intro k8 hmem))))
  clear hL hm r8 b8 k8 e0 hmem
  go_wp2
  go_loopg [48] m (fun n i wr => ∃ k : Nat, k ≤ m ∧ n = m - k ∧ i = .int .i64 k ∧ Since v8 wr)
  case atStart => exact ⟨0, by omega, by omega, rfl, Since.refl _⟩
  case round =>
    obtain ⟨k, hk, hn, rfl, hj⟩ := hrel
    by_cases hlt : k < m
    · obtain ⟨hL, hm, r8, k8, hmem⟩ := R8.out
      obtain ⟨c, hc⟩ : ∃ c, L[k]? = some c := ⟨_, List.getElem?_eq_getElem (by omega)⟩
      obtain ⟨a, rfl, q⟩ := (r8.since hj).at_ k c hc
      have hcT : c ∈ T := hmem c (List.mem_of_getElem? hc)
      unfold ColAt at q
      have e0 := ((HX.out.1.since k8).since hj).row
      have l0 := ((HX.out.1.since k8).since hj).lt
      have hn1 := count_pos hcT
      have hN1 : decide ((manyN countF c T : Int) < 1) = false := by simp; omega
      have hNU := count_same F.out.2.2.2 c
      have hNF := count_same (flipT_same hT) c
      obtain ⟨N, hN⟩ : ∃ N, manyN countF c T = N := ⟨_, rfl⟩
      rw [hN] at hn1 hNU hNF hN1
      have NN := Lib.hid (And.intro hn (And.intro hN (And.intro hNU (And.intro hNF hj))))
      clear hn hN hNU hNF hc hcT hL hm r8 k8 hmem hj hn1
      obtain ⟨c0, c1, c2, c3⟩ := c
      simp only [] at q
      go_wp2_with (fail)
      refine (count_any T (c0, c1, c2, c3) _ hT HB.out).mono ?_
      rintro e u1 ⟨rfl, g1⟩
      rw [NN.out.2.1]
      have kU : Since v8 u1 := (NN.out.2.2.2.2.alloc _).step g1
      have QC := Lib.hid ((Has.new wr (.cells (colC (c0, c1, c2, c3)) 23 (0, 0))).below g1 (Has.new _ _).lt)
      have KU := Lib.hid kU
      have KX := Lib.hid (R8.out.2.2.2.1.trans kU)
      clear g1 kU q e0
      go_wp2
      refine wp_region_sched [(0, false), (1, false), (3, false), (2, true), (4, false), (5, false), (6, false), (8, false), (10, false), (7, true), (9, true), (11, false), (12, false), (13, false), (14, false), (15, false), (16, false)] (Since u1) (by kernel_rfl) (by kernel_rfl) (Since.refl u1).drew ?_
      repeat (refine sched_pure (v := ?_) rfl rfl ?_ ?_; rotate_left; (focus (intro Y hY; first | (refine (exec_tile (R0.out Y (KX.out.trans hY)) hs rfl).trans ?_; with_reducible rfl) | (refine (exec_tile (R1.out Y (KX.out.trans hY)) hsU rfl).trans ?_; with_reducible rfl) | (have y0 := (QC.out.since hY).four; go_simp; try with_reducible rfl))); go_simp; try go_bits)
      refine sched_act rfl rfl ?_
      go_simp
      refine (count_any U (c0, c1, c2, c3) _ lU (fun d hd => HB.out d (F.out.2.2.2.mem_iff.1 hd))).mono ?_
      rintro e u2 ⟨rfl, g2⟩
      rw [NN.out.2.2.1]
      have j2 : Since u1 u2 := (Since.refl u1).drew.step g2
      refine ⟨j2, ?_⟩
      repeat (refine sched_pure (v := ?_) rfl rfl ?_ ?_; rotate_left; (focus (intro Y hY; first | (refine (exec_tile (R0.out Y (KX.out.trans hY)) hs rfl).trans ?_; with_reducible rfl) | (refine (exec_tile (R1.out Y (KX.out.trans hY)) hsU rfl).trans ?_; with_reducible rfl) | (have y0 := (QC.out.since hY).four; go_simp; try with_reducible rfl))); go_simp; try go_bits)
      refine sched_act rfl rfl ?_
      go_simp
      refine (flipT_any T _ hT).mono ?_
      rintro e u3 ⟨rfl, g3⟩
      have j3 := j2.step g3
      refine ⟨j3, ?_⟩
      repeat (refine sched_pure (v := ?_) rfl rfl ?_ ?_; rotate_left; (focus (intro Y hY; first | (refine (exec_tile (R0.out Y (KX.out.trans hY)) hs rfl).trans ?_; with_reducible rfl) | (refine (exec_tile (R1.out Y (KX.out.trans hY)) hsU rfl).trans ?_; with_reducible rfl) | (have y0 := (QC.out.since hY).four; go_simp; try with_reducible rfl))); go_simp; try go_bits)
      refine sched_act rfl rfl ?_
      go_simp
      refine (count_any (flipT T) (c0, c1, c2, c3) _ (flipT_length T) (fun d hd => HB.out d ((flipT_same hT).mem_iff.1 hd))).mono ?_
      rintro e u4 ⟨rfl, g4⟩
      rw [NN.out.2.2.2.1]
      have j4 := j3.step g4
      refine ⟨j4, ?_⟩
      repeat (refine sched_pure (v := ?_) rfl rfl ?_ ?_; rotate_left; (focus (intro Y hY; first | (refine (exec_tile (R0.out Y (KX.out.trans hY)) hs rfl).trans ?_; with_reducible rfl) | (refine (exec_tile (R1.out Y (KX.out.trans hY)) hsU rfl).trans ?_; with_reducible rfl) | (have y0 := (QC.out.since hY).four; go_simp; try with_reducible rfl))); go_simp; try go_bits)
      refine sched_end ?_
      have J4 := Lib.hid (KU.out.trans j4)
      clear j2 j3 j4 g2 g3 g4
      go_wp2
      go_roundg (m - (k + 1))
      case measure => have := NN.out.1; omega
      case rel => exact ⟨k + 1, hlt, rfl, by go_num, J4.out⟩
    · obtain rfl : k = m := by omega
      have KX := Lib.hid (R8.out.2.2.2.1.trans hj)
      clear hn hj
      go_wp2
      refine wp_region_sched [(0, false), (3, false), (1, true), (2, false), (4, true), (5, false), (6, false), (7, false)] (Since wr) (by kernel_rfl) (by kernel_rfl) (Since.refl wr).drew ?_
      repeat (refine sched_pure (v := ?_) rfl rfl ?_ ?_; rotate_left; (focus (intro Y hY; first | (refine (exec_tile (R0.out Y (KX.out.trans hY)) hs rfl).trans ?_; with_reducible rfl) | (refine (exec_tile (R1.out Y (KX.out.trans hY)) hsU rfl).trans ?_; with_reducible rfl) | (go_simp; try with_reducible rfl))); go_simp; try go_bits)
      refine sched_act rfl rfl ?_
      go_simp
      refine (colors_any U _ lU (fun d hd => HB.out d (F.out.2.2.2.mem_iff.1 hd))).mono ?_
      rintro e u1 ⟨a1, cap1, rfl, r1, g1⟩
      have j1 : Since wr u1 := (Since.refl wr).drew.step g1
      refine ⟨j1, ?_⟩
      repeat (refine sched_pure (v := ?_) rfl rfl ?_ ?_; rotate_left; (focus (intro Y hY; first | (refine (exec_tile (R0.out Y (KX.out.trans hY)) hs rfl).trans ?_; with_reducible rfl) | (refine (exec_tile (R1.out Y (KX.out.trans hY)) hsU rfl).trans ?_; with_reducible rfl) | (go_simp; try with_reducible rfl))); go_simp; try go_bits)
      refine sched_act rfl rfl ?_
      go_simp
      refine (colors_any T _ hT HB.out).mono ?_
      rintro e u2 ⟨a2, cap2, rfl, r2, g2⟩
      rw [firsts_same F.out.2.2.2]
      have j2 := j1.step g2
      refine ⟨j2, ?_⟩
      repeat (refine sched_pure (v := ?_) rfl rfl ?_ ?_; rotate_left; (focus (intro Y hY; first | (refine (exec_tile (R0.out Y (KX.out.trans hY)) hs rfl).trans ?_; with_reducible rfl) | (refine (exec_tile (R1.out Y (KX.out.trans hY)) hsU rfl).trans ?_; with_reducible rfl) | (go_simp; try with_reducible rfl))); go_simp; try go_bits)
      refine sched_end ?_
      go_wp2
      go_ret
      exact ⟨rfl, HX.out.2.2.trans ((KX.out.trans j2).below.mono HX.out.2.2.size)⟩
end Go.Proofs.Ytedckelfdkfkoaa
