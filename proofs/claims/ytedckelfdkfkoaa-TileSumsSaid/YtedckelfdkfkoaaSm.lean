/- The law TileSums: colours come to as many pixels as there are; shifted there and back. -/
import Derived.Test.YtedckelfdkfkoaaO
import Derived.Test.YtedckelfdkfkoaaWk
import Derived.Test.YtedckelfdkfkoaaPs
import Derived.Test.YtedckelfdkfkoaaCn
import Derived.Test.YtedckelfdkfkoaaJc
import Derived.Test.YtedckelfdkfkoaaSi
import Derived.IntWalk
namespace Go.Proofs.Ytedckelfdkfkoaa
open Go.RowKit Go.Shelf
attribute [local go_sem] Oper.semAt_some
attribute [local go_sem 2000] run_col run_tile
attribute [local go_sem] colB_self
attribute [local go_sem ↓] Go.wp_at_zero Go.wp_at_succ
attribute [local go_sem ↓] zero25 build25 build176z build176 load25 store25
attribute [local go_sem] rowAt_alloc rowFree_alloc rowAt_drew rowFree_drew rowAt_alloc_map zeroA_size zc176 zeroA_ones blkOf_ptr aggOf_agg

set_option maxRecDepth 100000 in
set_option maxHeartbeats 4000000 in
theorem sums_law (T : List Col) (x y : Int) (w : World) (hT : T.length = 64) (hb : ∀ c ∈ T, ByC c) :
    Calls Try.prog 8 #[.agg (tileA T), .int .i64 x, .int .i64 y] w fun e w' => e = .returned (.bool true) ∧ Below w.heap.size w w' := by
  have hs : (tileA T).size = 256 := by rw [tileA_size, hT]
  have tx := tmod9 x
  have ty := tmod9 y
  obtain ⟨x', hx'⟩ : ∃ x', x.tmod 9 = x' := ⟨_, rfl⟩
  obtain ⟨y', hy'⟩ : ∃ y', y.tmod 9 = y' := ⟨_, rfl⟩
  rw [hx'] at tx
  rw [hy'] at ty
  have HX := Lib.hid (And.intro hx' hy')
  have HB := Lib.hid hb
  clear hx' hy' hb
  obtain ⟨tx1, tx2⟩ := tx
  obtain ⟨ty1, ty2⟩ := ty
  go_enter Try.func8, Try.ntmps8
  go_wp2_with (fail)
  refine (wakes4_any _).mono ?_
  rintro e w1 ⟨rfl, hb1⟩
  have x0 := (Has.new w (.cells (tileA T) 25 (0, 0))).below hb1 (Has.new _ _).lt
  have s1 : Since w w1 := ((Since.refl w).alloc (.cells (tileA T) 25)).step hb1
  have e0 := x0.row
  have l0 := x0.lt
  have S0 := Lib.hid (And.intro x0 s1)
  clear hb1 x0 s1
  go_wp2_with (fail)
  refine (colors_cap T _ hT HB.out).mono ?_
  rintro e w2 ⟨a2, cap2, rfl, r2, hcap, b2⟩
  have n2 := firstsL_le T
  rw [hT] at n2
  have n0 := countsL_le T
  rw [hT] at n0
  have nAll := countsL_firsts T
  rw [hT] at nAll
  have nW := fun (k : Nat) (c : Col) (h : (firstsL T)[k]? = some c) => firsts_new h
  have nR := runs_facts hT
  obtain ⟨L, hL⟩ : ∃ L, firstsL T = L := ⟨_, rfl⟩
  rw [hL] at r2 n2 n0 nAll nR hcap ⊢
  simp only [hL] at nW
  generalize hm : L.length = m at *
  have F := Lib.hid (And.intro n0 (And.intro nAll (And.intro nW (And.intro nR (And.intro hm r2)))))
  have x0 := S0.out.1.below b2 S0.out.1.lt
  have s2 := S0.out.2.step b2
  have S2 := Lib.hid (And.intro x0 s2)
  have l0 := x0.lt
  clear n0 nAll nW nR hm r2 hL x0 s2 b2 e0
  go_wp2
  go_loopg [8, 25] m (fun n v i wr => ∃ k : Nat, k ≤ m ∧ n = m - k ∧ i = .int .i64 k ∧ v = .int .i64 (countsL T (L.take k)) ∧ Since w2 wr)
  case atStart => exact ⟨0, by omega, by omega, rfl, rfl, Since.refl _⟩
  case round =>
    obtain ⟨k, hk, hn, rfl, rfl, hj⟩ := hrel
    have x0 := S2.out.1.since hj
    have e0 := x0.row
    have l0 := x0.lt
    by_cases hlt : k < m
    · obtain ⟨n0, nAll, nW, nR, hm, r2⟩ := F.out
      obtain ⟨c, hc⟩ : ∃ c, L[k]? = some c := ⟨_, List.getElem?_eq_getElem (by omega)⟩
      obtain ⟨a, rfl, q⟩ := (r2.since hj).at_ k c hc
      have h1 := n0 (k + 1)
      have h2 := countsL_take (T := T) hc
      have hnew := nW k c hc
      obtain ⟨N, hN⟩ : ∃ N, countsL T (L.take k) = N := ⟨_, rfl⟩
      obtain ⟨M, hM⟩ : ∃ M, manyN countF c T = M := ⟨_, rfl⟩
      rw [hN, hM] at h2
      rw [hN]
      have hNM : N + M ≤ 64 := by omega
      have J := Lib.hid (And.intro hn (And.intro hj (And.intro h2 (And.intro hM hnew))))
      clear n0 nAll nW nR hm r2 hc hn hj h1 h2 hM hnew x0 hN
      obtain ⟨c0, c1, c2, c3⟩ := c
      unfold ColAt at q
      simp only [] at q
      go_wp2_with (fail)
      refine (count_any T (c0, c1, c2, c3) _ hT HB.out).mono ?_
      rintro e u1 ⟨rfl, g1⟩
      rw [J.out.2.2.2.1]
      have kU : Since w2 u1 := (J.out.2.1.alloc _).step g1
      have QC := Lib.hid ((Has.new wr (.cells (colC (c0, c1, c2, c3)) 23 (0, 0))).below g1 (Has.new _ _).lt)
      have KU := Lib.hid kU
      have i1 : IntKind.i64.wrap ((N : Int) + (M : Int)) = (N : Int) + (M : Int) := IntWalk.i64_in _ (by omega)
      have i2 : (0 : Int) ≤ (k : Int) := by omega
      have i3 : (k : Int) ≤ (cap2 : Int) := by omega
      clear g1 kU q e0
      go_wp2
      refine wp_region_sched [(0, false), (1, false), (2, false), (3, false), (4, true)] (Since u1) (by kernel_rfl) (by kernel_rfl) (Since.refl u1).drew ?_
      repeat (refine sched_pure (v := ?_) rfl rfl ?_ ?_; rotate_left; (focus (intro Y hY; have y0 := (QC.out.since hY).four; go_simp; try with_reducible rfl)); go_simp; try go_bits)
      refine sched_act rfl rfl ?_
      go_simp
      have lt : (L.take k).length = k := by rw [List.length_take, F.out.2.2.2.2.1]; omega
      have hc := contains_any (some a) cap2 (L.take k) (c0, c1, c2, c3) u1.drew ((F.out.2.2.2.2.2.since KU.out.drew).upto k)
      rw [lt] at hc
      refine hc.mono ?_
      rintro e u2 ⟨rfl, g2⟩
      rw [decide_eq_false J.out.2.2.2.2]
      have k2 : Since u1 u2 := (Since.refl u1).drew.step g2
      refine ⟨k2, ?_⟩
      refine sched_end ?_
      have K2 := Lib.hid (KU.out.trans k2)
      clear hc lt g2 k2
      go_wp2
      go_roundg (m - (k + 1))
      case measure => have := J.out.1; omega
      case rel => exact ⟨k + 1, hlt, rfl, by go_num, by rw [J.out.2.2.1]; go_num, K2.out⟩
    · obtain rfl : k = m := by omega
      obtain ⟨n0, nAll, nW, nR, hm, r2⟩ := F.out
      have ht : L.take k = L := List.take_of_length_le (by omega)
      rw [ht, nAll]
      obtain ⟨R, hR⟩ : ∃ R, 1 + manyN runsF (atT T 0) T = R := ⟨_, rfl⟩
      rw [hR] at nR
      have HR := Lib.hid hR
      obtain ⟨nR1, nR2⟩ := nR
      obtain ⟨bb, hbb⟩ : ∃ bb, ((k : Int) == 1) = bb := ⟨_, rfl⟩
      have hRb : ((R : Int) == 1) = bb := by
        rw [← hbb, Bool.eq_iff_iff]; simp; omega
      have hRm : decide (R < k) = false := by simp; omega
      have J := Lib.hid (And.intro hj x0)
      clear n0 nAll nW nR2 hm r2 ht hn hj x0 hR nR1
      go_wp2_with (fail)
      refine (runs_any T _ hT HB.out).mono ?_
      rintro e u1 ⟨rfl, g1⟩
      rw [HR.out]
      have j1 := J.out.1.step g1
      have e1 := (S2.out.1.since j1).row
      have J1 := Lib.hid j1
      clear e0 g1 j1
      go_wp2_with (fail)
      refine (runs_any T _ hT HB.out).mono ?_
      rintro e u2 ⟨rfl, g2⟩
      rw [HR.out]
      have j2 := J1.out.step g2
      have e2 := (S2.out.1.since j2).row
      have J2 := Lib.hid j2
      have nx : IntKind.i64.wrap (-x') = -x' := IntWalk.i64_in _ (by omega)
      have ny : IntKind.i64.wrap (-y') = -y' := IntWalk.i64_in _ (by omega)
      clear e1 g2 j2
      go_wp2_with (fail)
      rw [HX.out.1, HX.out.2]
      refine (shiftT_any T x' y' z0 _ hT).mono ?_
      rintro e u3 ⟨rfl, g3⟩
      have j3 := J2.out.step g3
      have J3 := Lib.hid j3
      clear e2 g3 j3 hbb hRb hRm
      go_wp2_with (fail)
      refine (shiftT_any (shiftT T z0 x' y') (-x') (-y') z0 _ (shiftT_length _ _ _ _)).mono ?_
      rintro e u4 ⟨rfl, g4⟩
      have hat := fun (a b : Nat) (ha : a < 8) (hb : b < 8) => shift_back (T := T) ⟨tx1, tx2⟩ ⟨ty1, ty2⟩ ha hb
      have lS := shiftT_length (shiftT T z0 x' y') z0 (-x') (-y')
      obtain ⟨S, hS⟩ : ∃ S, shiftT (shiftT T z0 x' y') z0 (-x') (-y') = S := ⟨_, rfl⟩
      rw [hS] at lS ⊢
      simp only [hS] at hat
      have HS := Lib.hid hat
      have sS : (tileA S).size = 256 := by rw [tileA_size, lS]
      have oS := onesB_tile S
      obtain ⟨A, hA⟩ : ∃ A, tileA S = A := ⟨_, rfl⟩
      rw [hA] at sS oS ⊢
      have HA := Lib.hid hA
      have j4 := J3.out.step g4
      have x4 := S2.out.1.since j4
      have l4 := x4.lt
      have J4 := Lib.hid j4
      clear hat hS hA g4 j4 x4 nx ny
      go_wp2
      obtain rfl := HA.out
      generalize hX : World.setRow _ _ _ = X
      have sz : X.heap.size = u4.heap.size + 1 := by rw [← hX]; simp
      have x0 : Has X w.heap.size (.cells (tileA T) 25 (0, 0)) := by rw [← hX]; exact ((S2.out.1.since J4.out).alloc _).setRow_other _ (by omega)
      have x1 : Has X u4.heap.size (.cells (tileA S) 25 (0, 0)) := by rw [← hX]; exact (Has.new' (o := .cells zeroA 25) (by simp)).setRow _
      have j5 : Since w2 X := by rw [← hX]; exact (J4.out.alloc _).setRow J4.out.size _
      have R := Lib.hid (And.intro x0 (And.intro x1 j5))
      have SZ := Lib.hid sz
      clear hX x0 x1 j5 sz oS HA J4 J3 J2 J1 J
      go_loopg [74] 8 (fun n i wr => ∃ b : Nat, b ≤ 8 ∧ n = 8 - b ∧ i = .int .i64 b ∧ Since X wr)
      case atStart => exact ⟨0, by omega, by omega, rfl, Since.refl _⟩
      case round =>
        obtain ⟨b, hb, hn, rfl, hj⟩ := hrel
        by_cases hlt : b < 8
        · have HN := Lib.hid hn
          clear hn
          have hd : decide ((b : Int) < 8) = true := by simp; omega
          go_wp2
          clear hd
          obtain ⟨wo, rfl⟩ : ∃ wo : World, wo = wr := ⟨_, rfl⟩
          go_loopg [77] 8 (fun n i wr => ∃ a : Nat, a ≤ 8 ∧ n = 8 - a ∧ i = .int .i64 a ∧ Since X wr)
          case atStart => exact ⟨0, by omega, by omega, rfl, hj⟩
          case round =>
            clear hj
            obtain ⟨a, ha, hn, rfl, hj⟩ := hrel
            by_cases hla : a < 8
            · have HN2 := Lib.hid hn
              clear hn
              have e0 := (R.out.1.since hj).row
              have l5 := (R.out.1.since hj).lt
              have w1' : IntKind.i64.wrap ((a : Int) + x') = (a : Int) + x' := IntWalk.i64_in _ (by omega)
              have w2' : IntKind.i64.wrap ((b : Int) + y') = (b : Int) + y' := IntWalk.i64_in _ (by omega)
              obtain ⟨p, hp⟩ : ∃ p, (a : Int) + x' = p := ⟨_, rfl⟩
              obtain ⟨r, hr⟩ : ∃ r, (b : Int) + y' = r := ⟨_, rfl⟩
              have hat := HS.out a b hla hlt
              rw [hp, hr] at hat
              rw [hp] at w1'
              rw [hr] at w2'
              have hcase : (isB p r = true ∧ 0 ≤ p ∧ p < 8 ∧ 0 ≤ r ∧ r < 8) ∨ (isB p r = false ∧ ¬ 0 ≤ p) ∨ (isB p r = false ∧ 0 ≤ p ∧ ¬ p < 8) ∨ (isB p r = false ∧ 0 ≤ p ∧ p < 8 ∧ ¬ 0 ≤ r) ∨ (isB p r = false ∧ 0 ≤ p ∧ p < 8 ∧ 0 ≤ r ∧ ¬ r < 8) := by
                have h0 := @isB_iff p r
                have h1 := @isB_not p r
                cases hB : isB p r
                · have := h1.1 hB; simp; omega
                · have := h0.1 hB; simp; omega
              have HJ := Lib.hid hj
              rcases hcase with ⟨hB, c1, c2, c3, c4⟩ | ⟨hB, c1⟩ | ⟨hB, c1, c2⟩ | ⟨hB, c1, c2, c3⟩ | ⟨hB, c1, c2, c3, c4⟩
              · rw [if_pos hB] at hat
                have HAT := Lib.hid hat
                clear hat hB hj
                go_wp2_with (fail)
                refine (at_any T a b _ hT).mono ?_
                rintro e v1 ⟨rfl, f1⟩
                rw [atV_yes hla hlt]
                obtain ⟨d, hd⟩ : ∃ d, atT T (b * 8 + a) = d := ⟨_, rfl⟩
                rw [hd]
                have HD := Lib.hid hd
                obtain ⟨d0, d1, d2, d3⟩ := d
                have J1 := Lib.hid (HJ.out.step f1)
                have e1 := ((R.out.2.1.since J1.out).alloc (.cells (colC (d0, d1, d2, d3)) 23)).row
                have l6 := (R.out.2.1.since J1.out).lt
                clear f1 e0 hd
                go_wp2_with (fail)
                refine (at_any S a b _ lS).mono ?_
                rintro e v2 ⟨rfl, f2⟩
                rw [atV_yes hla hlt, HAT.out, HD.out]
                have D1 := ((Has.new v1 (.cells (colC (d0, d1, d2, d3)) 23 (0, 0))).below f2 (Has.new _ _).lt)
                have q1 := (D1.alloc (.cells (colC (d0, d1, d2, d3)) 23)).four
                have l7 := D1.lt
                have J2 := Lib.hid ((J1.out.alloc (.cells (colC (d0, d1, d2, d3)) 23)).step f2)
                clear f2 D1 e1
                go_wp2
                go_roundg (8 - (a + 1))
                case measure => have := HN2.out; omega
                case rel => exact ⟨a + 1, by omega, rfl, by go_num, J2.out.alloc _⟩
              all_goals
                rw [if_neg (by rw [hB]; simp)] at hat
                have HAT := Lib.hid hat
                clear hat hB hj
                go_wp2_with (fail)
                refine (at_any T a b _ hT).mono ?_
                rintro e v1 ⟨rfl, f1⟩
                rw [atV_yes hla hlt]
                obtain ⟨d, hd⟩ : ∃ d, atT T (b * 8 + a) = d := ⟨_, rfl⟩
                rw [hd]
                obtain ⟨d0, d1, d2, d3⟩ := d
                have J1 := Lib.hid (HJ.out.step f1)
                have e1 := ((R.out.2.1.since J1.out).alloc (.cells (colC (d0, d1, d2, d3)) 23)).row
                have l6 := (R.out.2.1.since J1.out).lt
                clear f1 e0 hd
                go_wp2_with (fail)
                refine (at_any S a b _ lS).mono ?_
                rintro e v2 ⟨rfl, f2⟩
                rw [atV_yes hla hlt, HAT.out, show z0 = ((0, 0, 0, 0) : Col) from rfl]
                have J2 := Lib.hid ((J1.out.alloc (.cells (colC (d0, d1, d2, d3)) 23)).step f2)
                clear f2 e1
                go_wp2
                go_roundg (8 - (a + 1))
                case measure => have := HN2.out; omega
                case rel => exact ⟨a + 1, by omega, rfl, by go_num, J2.out.alloc _⟩
            · obtain rfl : a = 8 := by omega
              have HJ := Lib.hid hj
              clear hn hj
              go_wp2
              go_roundg (8 - (b + 1))
              case measure => have := HN.out; omega
              case rel => exact ⟨b + 1, by omega, rfl, by go_num, HJ.out⟩
        · obtain rfl : b = 8 := by omega
          have HJ := Lib.hid hj
          clear hn hj
          go_wp2
          go_ret
          exact ⟨rfl, ((S2.out.2.trans R.out.2.2).trans HJ.out).below⟩
end Go.Proofs.Ytedckelfdkfkoaa
