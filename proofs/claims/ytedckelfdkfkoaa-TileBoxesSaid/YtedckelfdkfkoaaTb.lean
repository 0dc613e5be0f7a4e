/- The law TileBoxes: the least box and the patches in it. -/
import Derived.Test.YtedckelfdkfkoaaD
import Derived.Test.YtedckelfdkfkoaaO
import Derived.Test.YtedckelfdkfkoaaWk
import Derived.Test.YtedckelfdkfkoaaBp
namespace Go.Proofs.Ytedckelfdkfkoaa
open Go.RowKit Go.Shelf
attribute [local go_sem] Oper.semAt_some
attribute [local go_sem 2000] run_col run_tile
attribute [local go_sem] colB_self
attribute [local go_sem ↓] Go.wp_at_zero Go.wp_at_succ
attribute [local go_sem ↓] zero25 build25 build176z build176 load25 store25
attribute [local go_sem] rowAt_alloc rowFree_alloc rowAt_drew rowFree_drew rowAt_alloc_map zeroA_size zc176 zeroA_ones blkOf_ptr aggOf_agg

theorem ptRow_one {W : World} {n : Nat} {x y : Int} (h : Has W n (.cells #[.int .i64 x, .int .i64 y] 43 (0, 0))) (hx : WdP (x, y)) : PtRow W (some ⟨n, 0, none⟩) [(x, y)] := by
  refine ⟨by simp [maxLen], fun i c hi => ?_, fun c hc => ?_⟩
  · match i, hi with
    | 0, hi => cases hi; exact ⟨_, rfl, h.cell 0, h.cell 1⟩
    | i + 1, hi => simp at hi
  · simp at hc; subst hc; exact hx
theorem withR_one {T : List Col} {c : Col} {a b : Nat} (ha : a < 8) (hb : b < 8) : withR (withT c T [((a : Int), (b : Int))]) = .tuple #[.agg (tileA (T.set (b * 8 + a) c)), .int .i64 0] := by
  unfold withT
  rw [if_pos (isB_nat ha hb)]
  unfold withT withR putT
  simp only [isB_nat ha hb, if_true]
  rw [show ((b : Int) * 8 + (a : Int)).toNat = b * 8 + a by omega]

set_option maxRecDepth 100000 in
set_option maxHeartbeats 4000000 in
theorem boxes_law (T T' : List Col) (w : World) (hT : T.length = 64) (hT' : T'.length = 64) :
    Calls Try.prog 4 #[.agg (tileA T), .agg (tileA T')] w fun e w' => e = .returned (.bool true) ∧ Below w.heap.size w w' := by
  have hs : (tileA T).size = 256 := by rw [tileA_size, hT]
  have hs' : (tileA T').size = 256 := by rw [tileA_size, hT']
  have HT := Lib.hid (And.intro hT hT')
  clear hT hT'
  go_enter Try.func4, Try.ntmps4
  go_wp2_with (go_at_call 24; refine (wakes4_any _).mono ?_; rintro e w1 ⟨rfl, hb1⟩)
  have x0 := ((Has.new w (.cells (tileA T) 25 (0, 0))).alloc (.cells (tileA T') 25 (0, 0))).below hb1 (by simp <;> omega)
  have x1 := (Has.new (w.alloc (.cells (tileA T) 25 (0, 0))) (.cells (tileA T') 25 (0, 0))).below hb1 (Has.new _ _).lt
  simp only [World.size_alloc] at x1
  have b1 := ((((Below.refl w.heap.size w).alloc (by simp) (.cells (tileA T) 25)).alloc (by simp <;> omega) (.cells (tileA T') 25))).trans (hb1.mono (by simp; omega))
  have e0 := x0.row
  have e1 := x1.row
  have S0 := Lib.hid (And.intro x0 (And.intro x1 b1))
  clear x0 x1 b1 hb1
  go_wp2_with (fail)
  refine (box_any T T' _ HT.out.1 HT.out.2).mono ?_
  rintro e w2 ⟨rfl, b2⟩
  obtain ⟨V, hV⟩ : ∃ V, boxV T T' = V := ⟨_, rfl⟩
  rw [hV]
  have HV := Lib.hid hV
  clear hV e0 e1
  obtain ⟨⟨B0, B1, B2, B3⟩, ok⟩ := V
  have x0 := S0.out.1.below b2 S0.out.1.lt
  have x1 := S0.out.2.1.below b2 S0.out.2.1.lt
  have b12 := S0.out.2.2.trans (b2.mono S0.out.2.2.size)
  have e0 := x0.row
  have e1 := x1.row
  have l0 := x0.lt
  have l1 := x1.lt
  have q0 := (Has.new w2 (.cells (box4 (B0, B1, B2, B3)) 33 (0, 0))).four
  have S1 := Lib.hid (And.intro x0 (And.intro x1 b12))
  clear x0 x1 b12 b2 S0
  cases ok with
  | false =>
    obtain ⟨rfl, hB⟩ := boxV_no HV.out
    injection hB with h0 hB; injection hB with h1 hB; injection hB with h2 h3
    subst h0; subst h1; subst h2; subst h3
    have lT := HT.out.1
    go_wp2
    go_ret
    exact ⟨rfl, S1.out.2.2.alloc S1.out.2.2.size _⟩
  | true =>
    obtain ⟨A, hA⟩ : ∃ A, tileA T = A := ⟨_, rfl⟩
    have l2 := onesB_tile T
    rw [hA] at e0 hs l2 ⊢
    have HA := Lib.hid hA
    clear hA
    go_wp2
    obtain rfl := HA.out
    clear HA
    generalize hX : World.setRow _ _ _ = X
    have sz : X.heap.size = w2.heap.size + 2 := by rw [← hX]; simp
    have x0 : Has X w.heap.size (.cells (tileA T) 25 (0, 0)) := by rw [← hX]; exact ((S1.out.1.alloc _).alloc _).setRow_other _ (by omega)
    have x1 : Has X (w.heap.size + 1) (.cells (tileA T') 25 (0, 0)) := by rw [← hX]; exact ((S1.out.2.1.alloc _).alloc _).setRow_other _ (by omega)
    have x2 : Has X w2.heap.size (.cells (box4 (B0, B1, B2, B3)) 33 (0, 0)) := by rw [← hX]; exact ((Has.new _ _).alloc _).setRow_other _ (by omega)
    have x3 : Has X (w2.heap.size + 1) (.cells (tileA T) 25 (0, 0)) := by rw [← hX]; exact (Has.new' (o := .cells zeroA 25) (by simp)).setRow _
    have b3 : Below w.heap.size w X := by rw [← hX]; exact below_setRow ((S1.out.2.2.alloc S1.out.2.2.size _).alloc (by have := S1.out.2.2.size; simp; omega) _) (by omega) _
    clear hX e0 e1 q0 l2
    have HX := Lib.hid (And.intro x0 (And.intro x1 (And.intro x2 (And.intro b3 sz))))
    go_loopg [8, 37] 8 (fun n v i wr => ∃ b : Nat, b ≤ 8 ∧ n = 8 - b ∧ i = .int .i64 b ∧ v = .int .i64 0 ∧ Hid (Grew [w2.heap.size + 1] X wr ∧ Has wr (w2.heap.size + 1) (.cells (tileA (patchT T T' (b * 8))) 25 (0, 0))))
    case atStart => exact ⟨0, by omega, by omega, rfl, rfl, Lib.hid ⟨Grew.refl _ _, by rw [Nat.zero_mul, patchT_zero]; exact x3⟩⟩
    case round =>
      clear x0 x1 x2 x3 b3 sz
      obtain ⟨b, hb, hn, rfl, rfl, hj⟩ := hrel
      by_cases hlt : b < 8
      · have HN := Lib.hid hn
        clear hn
        have hd : decide ((b : Int) < 8) = true := by simp; omega
        go_wp2
        clear hd
        obtain ⟨wo, rfl⟩ : ∃ wo : World, wo = wr := ⟨_, rfl⟩
        go_loopg [8, 40] 8 (fun n v i wr => ∃ a : Nat, a ≤ 8 ∧ n = 8 - a ∧ i = .int .i64 a ∧ v = .int .i64 0 ∧ Hid (Grew [w2.heap.size + 1] X wr ∧ Has wr (w2.heap.size + 1) (.cells (tileA (patchT T T' (b * 8 + a))) 25 (0, 0))))
        case atStart => exact ⟨0, by omega, by omega, rfl, rfl, hj⟩
        case round =>
          clear hj
          obtain ⟨a, ha, hn, rfl, rfl, hj⟩ := hrel
          by_cases hla : a < 8
          · have HN2 := Lib.hid hn
            clear hn
            have e0 := (HX.out.1.grew hj.out.1 (by simp <;> omega)).row
            have e1 := (HX.out.2.1.grew hj.out.1 (by simp <;> omega)).row
            go_wp2_with (fail)
            refine (at_any T' a b _ HT.out.2).mono ?_
            rintro e v1 ⟨rfl, f1⟩
            rw [atV_yes hla hlt]
            obtain ⟨d, hd⟩ : ∃ d, atT T' (b * 8 + a) = d := ⟨_, rfl⟩
            rw [hd]
            have G1 := hj.out.1.trans (below_grew f1 [w2.heap.size + 1])
            have P1 := hj.out.2.below f1 hj.out.2.lt
            clear e0 e1 f1 hj
            have e0 := (HX.out.1.grew G1 (by simp <;> omega)).row
            have sz1 := G1.size
            have sz0 := HX.out.2.2.2.2
            have HD := Lib.hid (And.intro hd (And.intro G1 P1))
            clear hd G1 P1
            obtain ⟨d0, d1, d2, d3⟩ := d
            go_wp2_with (fail)
            refine (at_any T a b _ HT.out.1).mono ?_
            rintro e v2 ⟨rfl, f2⟩
            rw [atV_yes hla hlt]
            obtain ⟨c, hc⟩ : ∃ c, atT T (b * 8 + a) = c := ⟨_, rfl⟩
            rw [hc]
            obtain ⟨c0, c1, c2, c3⟩ := c
            have G2 := (HD.out.2.1.alloc (.cells (colC (d0, d1, d2, d3)) 23)).trans (below_grew f2 [w2.heap.size + 1])
            have P2 := (HD.out.2.2.alloc (.cells (colC (d0, d1, d2, d3)) 23)).below f2 (HD.out.2.2.alloc _).lt
            have D2 := (Has.new v1 (.cells (colC (d0, d1, d2, d3)) 23 (0, 0))).below f2 (Has.new _ _).lt
            have q0 := ((HX.out.2.2.1.grew G2 (by simp <;> omega)).alloc (.cells (colC (c0, c1, c2, c3)) 23)).four
            have q1 := (D2.alloc (.cells (colC (c0, c1, c2, c3)) 23)).four
            have HC := Lib.hid (And.intro hc (And.intro HD.out.1 (And.intro G2 (And.intro P2 D2))))
            clear hc G2 P2 D2 HD e0 f2
            have hout : ¬ inB (B0, B1, B2, B3) ((a : Int), (b : Int)) → ((c0, c1, c2, c3) : Col) = (d0, d1, d2, d3) := by
              intro hn
              rw [← HC.out.1, ← HC.out.2.1]
              by_cases he : atT T (b * 8 + a) = atT T' (b * 8 + a)
              · exact he
              · have := boxV_holds HV.out (k := b * 8 + a) (by omega) he
                rw [show (b * 8 + a) % 8 = a by omega, show (b * 8 + a) / 8 = b by omega] at this
                exact absurd this hn
            by_cases h1 : B0 ≤ (a : Int)
            · by_cases h2 : (a : Int) ≤ B2
              · by_cases h3 : B1 ≤ (b : Int)
                · by_cases h4 : (b : Int) ≤ B3
                  · clear hout
                    have e7 := (HC.out.2.2.2.1.alloc (.cells (colC (c0, c1, c2, c3)) 23)).row
                    have lp : (patchT T T' (b * 8 + a)).length = 64 := patchT_length HT.out.1 HT.out.2 (by omega)
                    have l7 : (tileA (patchT T T' (b * 8 + a))).size = 256 := by rw [tileA_size, lp]
                    go_wp2_with (fail)
                    have pn := Has.new' (W := v2.alloc (.cells (colC (c0, c1, c2, c3)) 23)) (o := .cells #[.int .i64 (a : Int), .int .i64 (b : Int)] 43) (r := v2.heap.size + 1) (by simp)
                    refine (with_any (patchT T T' (b * 8 + a)) (d0, d1, d2, d3) (some ⟨v2.heap.size + 1, 0, none⟩) 1 [((a : Int), (b : Int))] _ lp (ptRow_one pn (by unfold WdP; simp only []; omega))).mono ?_
                    rintro e v3 ⟨rfl, f3⟩
                    rw [withR_one hla hlt]
                    rw [← HC.out.2.1, patchT_set HT.out.1 HT.out.2 (by omega)]
                    have P3 := ((HC.out.2.2.2.1.alloc (.cells (colC (c0, c1, c2, c3)) 23)).alloc (.cells #[.int .i64 (a : Int), .int .i64 (b : Int)] 43)).below f3 ((HC.out.2.2.2.1.alloc _).alloc _).lt
                    have G3 := ((HC.out.2.2.1.alloc (.cells (colC (c0, c1, c2, c3)) 23)).alloc (.cells #[.int .i64 (a : Int), .int .i64 (b : Int)] 43)).trans (below_grew f3 [w2.heap.size + 1])
                    have l8 : (tileA (patchT T T' (b * 8 + a + 1))).size = 256 := by rw [tileA_size, patchT_length HT.out.1 HT.out.2 (by omega)]
                    have o8 := onesB_tile (patchT T T' (b * 8 + a + 1))
                    have e8 := P3.row
                    have f8 := P3.rowFree
                    obtain ⟨A, hA⟩ : ∃ A, tileA (patchT T T' (b * 8 + a + 1)) = A := ⟨_, rfl⟩
                    rw [hA] at l8 o8 ⊢
                    have H3 := Lib.hid (And.intro P3 (And.intro G3 hA))
                    clear P3 G3 hA pn f3 e7 q0 q1
                    go_wp2
                    obtain ⟨P3, G3, hA⟩ := H3.out
                    go_roundg (8 - (a + 1))
                    case measure => have := HN2.out; omega
                    case rel =>
                      refine ⟨a + 1, by omega, rfl, by go_num, rfl, Lib.hid ⟨(G3.setRow _ (.inl (by simp))), ?_⟩⟩
                      rw [show b * 8 + (a + 1) = b * 8 + a + 1 by omega, hA]
                      exact P3.setRow _
                  · cases hout (fun h => h4 h.2.2.2)
                    clear hout
                    go_wp2
                    obtain ⟨hc, hd', G2, P2, D2⟩ := HC.out
                    go_roundg (8 - (a + 1))
                    case measure => have := HN2.out; omega
                    case rel =>
                      refine ⟨a + 1, by omega, rfl, by go_num, rfl, Lib.hid ⟨(G2.alloc _), ?_⟩⟩
                      rw [show b * 8 + (a + 1) = b * 8 + a + 1 by omega, ← patchT_same HT.out.1 HT.out.2 (by omega) (by rw [hc, hd'])]
                      exact P2.alloc _
                · cases hout (fun h => h3 h.2.2.1)
                  clear hout
                  go_wp2
                  obtain ⟨hc, hd', G2, P2, D2⟩ := HC.out
                  go_roundg (8 - (a + 1))
                  case measure => have := HN2.out; omega
                  case rel =>
                    refine ⟨a + 1, by omega, rfl, by go_num, rfl, Lib.hid ⟨(G2.alloc _), ?_⟩⟩
                    rw [show b * 8 + (a + 1) = b * 8 + a + 1 by omega, ← patchT_same HT.out.1 HT.out.2 (by omega) (by rw [hc, hd'])]
                    exact P2.alloc _
              · cases hout (fun h => h2 h.2.1)
                clear hout
                go_wp2
                obtain ⟨hc, hd', G2, P2, D2⟩ := HC.out
                go_roundg (8 - (a + 1))
                case measure => have := HN2.out; omega
                case rel =>
                  refine ⟨a + 1, by omega, rfl, by go_num, rfl, Lib.hid ⟨(G2.alloc _), ?_⟩⟩
                  rw [show b * 8 + (a + 1) = b * 8 + a + 1 by omega, ← patchT_same HT.out.1 HT.out.2 (by omega) (by rw [hc, hd'])]
                  exact P2.alloc _
            · cases hout (fun h => h1 h.1)
              clear hout
              go_wp2
              obtain ⟨hc, hd', G2, P2, D2⟩ := HC.out
              go_roundg (8 - (a + 1))
              case measure => have := HN2.out; omega
              case rel =>
                refine ⟨a + 1, by omega, rfl, by go_num, rfl, Lib.hid ⟨(G2.alloc _), ?_⟩⟩
                rw [show b * 8 + (a + 1) = b * 8 + a + 1 by omega, ← patchT_same HT.out.1 HT.out.2 (by omega) (by rw [hc, hd'])]
                exact P2.alloc _
          · obtain rfl : a = 8 := by omega
            clear hn
            have h8 := hj.out
            rw [show b * 8 + 8 = (b + 1) * 8 by omega] at h8
            have HJ := Lib.hid h8
            clear h8 hj
            go_wp2
            go_roundg (8 - (b + 1))
            case measure => have := HN.out; omega
            case rel => exact ⟨b + 1, by omega, rfl, by go_num, rfl, HJ⟩
      · obtain rfl : b = 8 := by omega
        have h8 := hj.out
        rw [show 8 * 8 = 64 from rfl, patchT_end HT.out.1 HT.out.2] at h8
        obtain ⟨hG, hP⟩ := h8
        have y1 := HX.out.2.1.grew hG (by simp <;> omega)
        have y0 := HX.out.1.grew hG (by simp <;> omega)
        have y2 := HX.out.2.2.1.grew hG (by simp <;> omega)
        have bW := HX.out.2.2.2.1.trans (hG.below (by have := HX.out.2.2.2.2; omega) (by simp; omega))
        have e0 := y0.row
        have e1 := y1.row
        have HW := Lib.hid (And.intro y1 (And.intro hP (And.intro y2 bW)))
        clear y0 y1 y2 bW hG hP hj hn
        go_wp2_with (fail)
        refine (box_any T' T _ HT.out.2 HT.out.1).mono ?_
        rintro e v1 ⟨rfl, f1⟩
        rw [boxV_comm, HV.out]
        have y1 := HW.out.1.below f1 HW.out.1.lt
        have yp := HW.out.2.1.below f1 HW.out.2.1.lt
        have y2 := HW.out.2.2.1.below f1 HW.out.2.2.1.lt
        have bW := HW.out.2.2.2.trans (f1.mono HW.out.2.2.2.size)
        have g1 := (y1.alloc (.cells (box4 (B0, B1, B2, B3)) 33)).row
        have gp := (yp.alloc (.cells (box4 (B0, B1, B2, B3)) 33)).row
        have q0 := (y2.alloc (.cells (box4 (B0, B1, B2, B3)) 33)).four
        have q1 := (Has.new v1 (.cells (box4 (B0, B1, B2, B3)) 33 (0, 0))).four
        have HW2 := Lib.hid bW
        have lT := HT.out.2
        clear y1 yp y2 bW f1 e0 e1
        go_wp2
        go_ret
        exact ⟨rfl, HW2.out.alloc HW2.out.size _⟩
end Go.Proofs.Ytedckelfdkfkoaa
