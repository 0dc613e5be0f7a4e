/- How far colours are apart, and which one is nearest. -/
import Derived.Test.YtnladfpckejogaaP
import Derived.Test.YtnladfpckejogaaN
import Derived.Test.YtnladfpckejogaaH
import Derived.Deep.Cut

namespace Go.Proofs.Ytnladfpckejogaa
open Go.RowKit Go.Shelf
attribute [local go_sem] Oper.semAt_some

theorem ColRow.take {W : World} {ad : Option Addr} {l : List Col} (h : ColRow W ad l) (n : Nat) : ColRow W ad (l.take n) := by
  refine ⟨by rw [List.length_take]; have := h.len; omega, fun i c hi => ?_, fun c hc => h.by_ c (List.mem_of_mem_take hc)⟩
  rw [List.getElem?_take] at hi
  split at hi
  · exact h.at_ i c hi
  · cases hi

set_option maxRecDepth 100000 in
set_option maxHeartbeats 2000000 in
theorem fars_any (c0 c1 c2 c3 tol : Int) (ad : Option Addr) (cap : Nat) (l : List Col) (w : World) (hc : ByC (c0, c1, c2, c3)) (h : ColRow w ad l) (hn : ad = none → cap = 0) (hcap : l.length ≤ cap) :
    Calls Try.prog 7 #[.agg #[.int .u8 c0, .int .u8 c1, .int .u8 c2, .int .u8 c3], .slice ad l.length cap, .int .i64 tol] w fun e w' => e = .returned (.bool true) ∧ Below w.heap.size w w' := by
  have n1 := h.len
  unfold maxLen at n1
  obtain ⟨L, hL⟩ : ∃ L, l.take 12 = L := ⟨_, rfl⟩
  have hr := h.take 12
  rw [hL] at hr
  obtain ⟨mL, hmL⟩ : ∃ m, L.length = m := ⟨_, rfl⟩
  have hml : mL = min l.length 12 := by rw [← hmL, ← hL, List.length_take, Nat.min_comm]
  generalize hm : l.length = m at *
  have mL12 : mL ≤ 12 := by omega
  have A := Lib.hid (And.intro hmL (And.intro hr (And.intro hn (And.intro hc hml))))
  clear hm h hL hr hmL hml hn hc
  go_enter Try.func7, Try.ntmps7
  go_wp2_with (fail)
  generalize hX : World.alloc _ _ = X
  have x0 : Has X w.heap.size (.cells #[.int .u8 c0, .int .u8 c1, .int .u8 c2, .int .u8 c3] 27 (0, 0)) := by rw [← hX]; exact Has.new' (by simp)
  have bX : Below w.heap.size w X := by rw [← hX]; exact (Below.refl _ _).alloc (by simp) _
  clear hX
  refine (wakes_any _).mono ?_
  rintro e w1 ⟨rfl, bw1⟩
  have y0 := x0.below bw1 x0.lt
  have B1 := bX.trans (bw1.mono bX.size)
  clear x0 bX bw1
  go_upto_region 3 with (fail)
  go_cut [7] from 12 (fun s7 wc => ∃ ad' cap', s7 = .slice ad' mL cap' ∧ ColRow wc ad' L ∧ Has wc w.heap.size (.cells #[.int .u8 c0, .int .u8 c1, .int .u8 c2, .int .u8 c3] 27 (0, 0)) ∧ Below w.heap.size w wc)
  case first =>
    go_wp2_with (fail)
    · obtain ⟨hmL, hr, hn, hc, hml⟩ := A.out
      obtain rfl : mL = 12 := by omega
      refine (hmL ▸ clone_any ad cap L w1 (hr.below B1) hn (by omega)).mono ?_
      rintro e w2 ⟨ad', cap', rfl, q, _, b2⟩
      have y2 := y0.below b2 y0.lt
      have B2 := B1.trans (b2.mono B1.size)
      have T := Lib.hid (And.intro q (And.intro y2 B2))
      clear y0 B1 b2 hmL hr hn hc hml q y2 B2 A
      go_wp2_with (fail)
      go_meet
      case rel => exact ⟨ad', cap', rfl, T.out⟩
    · obtain ⟨hmL, hr, hn, hc, hml⟩ := A.out
      obtain rfl : mL = m := by omega
      refine (hmL ▸ clone_any ad cap L w1 (hr.below B1) hn (by omega)).mono ?_
      rintro e w2 ⟨ad', cap', rfl, q, _, b2⟩
      have y2 := y0.below b2 y0.lt
      have B2 := B1.trans (b2.mono B1.size)
      have T := Lib.hid (And.intro q (And.intro y2 B2))
      clear y0 B1 b2 hmL hr hn hc hml q y2 B2 A
      go_wp2_with (fail)
      go_meet
      case rel => exact ⟨ad', cap', rfl, T.out⟩
  case rest =>
  obtain ⟨ad', cap', rfl, hR, z0, B2⟩ := hcut
  have hRL := hR.len
  clear y0 B1
  go_wp2_with (fail)
  go_loopg [8, 22] mL (fun n b i wr => ∃ k : Nat, k ≤ mL ∧ n = mL - k ∧ i = .int .i64 k ∧ b = .int .i64 (nearI (farAt (c0, c1, c2, c3) L) k) ∧ Below wc.heap.size wc wr)
  case atStart => exact ⟨0, by omega, by omega, rfl, rfl, Below.refl _ _⟩
  case round =>
    obtain ⟨k, hk, hn, rfl, rfl, hb⟩ := hrel
    have BB := B2.trans (hb.mono B2.size)
    have j0 := z0.below hb z0.lt
    by_cases hlt : k < mL
    · have hmL := A.out.1
      have hc := A.out.2.2.2.1
      obtain ⟨d, hd⟩ : ∃ c, L[k]? = some c := ⟨_, List.getElem?_eq_getElem (by omega)⟩
      have hRr := hR.below hb
      obtain ⟨p, rfl, q⟩ := hRr.at_ k d hd
      have hdb : ByC d := hR.by_ d (List.mem_of_getElem? hd)
      obtain ⟨d0, d1, d2, d3⟩ := d
      have hfk : farAt (c0, c1, c2, c3) L k = farC c0 c1 c2 c3 d0 d1 d2 d3 := by unfold farAt; rw [hd]
      have nb := nearI_bd (farAt (c0, c1, c2, c3) L) k
      obtain ⟨be, hbe⟩ : ∃ be, nearI (farAt (c0, c1, c2, c3) L) k = be := ⟨_, rfl⟩
      rw [hbe] at nb
      rw [hbe]
      have k0 := j0.alloc (.cells #[.int .u8 d0, .int .u8 d1, .int .u8 d2, .int .u8 d3] 27 (0, 0))
      have k1 := Has.new wr (.cells #[.int .u8 d0, .int .u8 d1, .int .u8 d2, .int .u8 d3] 27 (0, 0))
      have bw := hb.alloc hb.size (.cells #[.int .u8 d0, .int .u8 d1, .int .u8 d2, .int .u8 d3] 27 (0, 0))
      have hRw := hRr.below ((Below.refl _ _).alloc (Nat.le_refl _) (.cells #[.int .u8 d0, .int .u8 d1, .int .u8 d2, .int .u8 d3] 27 (0, 0)))
      have e0 := k0.four
      have e1 := k1.four
      unfold ColAt at q
      simp only [] at q
      have Q := Lib.hid (And.intro hn (And.intro hfk (And.intro hbe (And.intro hmL (And.intro hd (And.intro hdb hc))))))
      have W := Lib.hid (And.intro k0 (And.intro k1 (And.intro bw hRw)))
      clear hn hfk hbe hmL hd hdb hc k0 k1 bw hRw j0 hb BB hRr
      go_wp2_with (fail)
      refine (rfar_any c0 c1 c2 c3 d0 d1 d2 d3 _ Q.out.2.2.2.2.2.2.1 Q.out.2.2.2.2.2.2.2.1 Q.out.2.2.2.2.2.2.2.2.1 Q.out.2.2.2.2.2.2.2.2.2 Q.out.2.2.2.2.2.1.1 Q.out.2.2.2.2.2.1.2.1 Q.out.2.2.2.2.2.1.2.2.1 Q.out.2.2.2.2.2.1.2.2.2).mono ?_
      rintro e w3 ⟨rfl, b3⟩
      have S3 := (show Has w3 w.heap.size (.cells #[.int .u8 c0, .int .u8 c1, .int .u8 c2, .int .u8 c3] 27 (0, 0)) ∧ Has w3 wr.heap.size (.cells #[.int .u8 d0, .int .u8 d1, .int .u8 d2, .int .u8 d3] 27 (0, 0)) ∧ ColRow w3 (some p) L ∧ Below wc.heap.size wc w3 from ⟨W.out.1.below b3 W.out.1.lt, W.out.2.1.below b3 W.out.2.1.lt, W.out.2.2.2.below b3, W.out.2.2.1.trans (b3.mono W.out.2.2.1.size)⟩)
      clear W b3 e0 e1
      have e0 := S3.1.four
      have e1 := S3.2.1.four
      have S3 := Lib.hid S3
      have hfl := farC_lo c0 c1 c2 c3 d0 d1 d2 d3
      go_wp2_with (fail)
      refine (far_any c0 c1 c2 c3 d0 d1 d2 d3 _ Q.out.2.2.2.2.2.2.1 Q.out.2.2.2.2.2.2.2.1 Q.out.2.2.2.2.2.2.2.2.1 Q.out.2.2.2.2.2.2.2.2.2 Q.out.2.2.2.2.2.1.1 Q.out.2.2.2.2.2.1.2.1 Q.out.2.2.2.2.2.1.2.2.1 Q.out.2.2.2.2.2.1.2.2.2).mono ?_
      rintro e w4 ⟨rfl, b4⟩
      have S4 := (show Has w4 w.heap.size (.cells #[.int .u8 c0, .int .u8 c1, .int .u8 c2, .int .u8 c3] 27 (0, 0)) ∧ Has w4 wr.heap.size (.cells #[.int .u8 d0, .int .u8 d1, .int .u8 d2, .int .u8 d3] 27 (0, 0)) ∧ ColRow w4 (some p) L ∧ Below wc.heap.size wc w4 from ⟨S3.out.1.below b4 S3.out.1.lt, S3.out.2.1.below b4 S3.out.2.1.lt, S3.out.2.2.1.below b4, S3.out.2.2.2.trans (b4.mono S3.out.2.2.2.size)⟩)
      clear S3 b4 e0 e1
      have e0 := S4.1.four
      have e1 := S4.2.1.four
      have S4 := Lib.hid S4
      go_wp2_with (fail)
      refine (near_any c0 c1 c2 c3 d0 d1 d2 d3 tol _ Q.out.2.2.2.2.2.2.1 Q.out.2.2.2.2.2.2.2.1 Q.out.2.2.2.2.2.2.2.2.1 Q.out.2.2.2.2.2.2.2.2.2 Q.out.2.2.2.2.2.1.1 Q.out.2.2.2.2.2.1.2.1 Q.out.2.2.2.2.2.1.2.2.1 Q.out.2.2.2.2.2.1.2.2.2).mono ?_
      rintro e w5 ⟨rfl, b5⟩
      have S5 := (show Has w5 w.heap.size (.cells #[.int .u8 c0, .int .u8 c1, .int .u8 c2, .int .u8 c3] 27 (0, 0)) ∧ Has w5 wr.heap.size (.cells #[.int .u8 d0, .int .u8 d1, .int .u8 d2, .int .u8 d3] 27 (0, 0)) ∧ ColRow w5 (some p) L ∧ Below wc.heap.size wc w5 from ⟨S4.out.1.below b5 S4.out.1.lt, S4.out.2.1.below b5 S4.out.2.1.lt, S4.out.2.2.1.below b5, S4.out.2.2.2.trans (b5.mono S4.out.2.2.2.size)⟩)
      clear S4 b5 e0 e1
      have S5 := Lib.hid S5
      by_cases hneg : be < 0
      · have hnx : nearI (farAt (c0, c1, c2, c3) L) (k + 1) = k := by unfold nearI; rw [Q.out.2.2.1, if_pos (.inl hneg)]
        have N := Lib.hid hnx
        clear hnx q
        go_wp2_with (fail)
        refine wp_region_sched [(0, false), (1, false), (2, false), (3, false), (4, false), (5, false), (6, false), (7, false), (8, false), (9, true), (10, false), (11, false)] (fun _ => True) (by kernel_rfl) (by kernel_rfl) trivial ?_
        repeat (first | (refine sched_idle rfl rfl trivial ?_; go_simp) | (refine sched_pure (v := ?_) rfl rfl ?_ ?_; rotate_left; (focus (intro Y hY; go_simp; try with_reducible rfl)); go_simp; try go_bits))
        refine sched_end ?_
        go_wp2
        go_roundg (mL - (k + 1))
        case measure => have := Q.out.1; omega
        case rel => exact ⟨k + 1, hlt, rfl, rfl, by rw [N.out], S5.out.2.2.2.drew⟩
      · obtain ⟨b, rfl⟩ := Int.eq_ofNat_of_zero_le (show 0 ≤ be by omega)
        obtain ⟨g, hg⟩ : ∃ c, L[b]? = some c := ⟨_, List.getElem?_eq_getElem (by have := Q.out.2.2.2.1; omega)⟩
        obtain ⟨p', hp, q2⟩ := S5.out.2.2.1.at_ b g hg
        cases hp
        have hgb : ByC g := hR.by_ g (List.mem_of_getElem? hg)
        obtain ⟨g0, g1, g2, g3⟩ := g
        have hfb : farAt (c0, c1, c2, c3) L b = farC c0 c1 c2 c3 g0 g1 g2 g3 := by unfold farAt; rw [hg]
        have hnx : nearI (farAt (c0, c1, c2, c3) L) (k + 1) = if farC c0 c1 c2 c3 d0 d1 d2 d3 < farC c0 c1 c2 c3 g0 g1 g2 g3 then (k : Int) else (b : Int) := by
          unfold nearI
          rw [Q.out.2.2.1, Int.toNat_natCast, Q.out.2.1, hfb]
          by_cases hlt2 : farC c0 c1 c2 c3 d0 d1 d2 d3 < farC c0 c1 c2 c3 g0 g1 g2 g3
          · rw [if_pos (.inr hlt2), if_pos hlt2]
          · rw [if_neg (by omega), if_neg hlt2]
        have hbm : b < mL := by omega
        have hS := And.intro S5.out.1 q2
        have D := Lib.hid (And.intro hgb hS)
        clear hgb hfb hg q q2 hS
        by_cases hlt2 : farC c0 c1 c2 c3 d0 d1 d2 d3 < farC c0 c1 c2 c3 g0 g1 g2 g3
        all_goals
          first | rw [if_pos hlt2] at hnx | rw [if_neg hlt2] at hnx
          have N := Lib.hid hnx
          clear hnx hneg
          go_wp2_with (fail)
          refine wp_region_sched [(0, false), (1, false), (2, false), (3, false), (4, false), (5, false), (6, false), (7, false), (8, false), (9, true), (10, false), (11, false)] (fun Y => Has Y w.heap.size (.cells #[.int .u8 c0, .int .u8 c1, .int .u8 c2, .int .u8 c3] 27 (0, 0)) ∧ ColAt Y (p.add (b * 4)) (g0, g1, g2, g3)) (by kernel_rfl) (by kernel_rfl) ⟨D.out.2.1.drew, D.out.2.2.drew⟩ ?_
          repeat (refine sched_pure (v := ?_) rfl rfl ?_ ?_; rotate_left; (focus (intro Y hY; have y0 := hY.1.four; have y2 := hY.2; unfold ColAt at y2; go_simp; try with_reducible rfl)); go_simp; try go_bits)
          refine sched_act rfl rfl ?_
          go_simp
          refine (rfar_any c0 c1 c2 c3 g0 g1 g2 g3 _ Q.out.2.2.2.2.2.2.1 Q.out.2.2.2.2.2.2.2.1 Q.out.2.2.2.2.2.2.2.2.1 Q.out.2.2.2.2.2.2.2.2.2 D.out.1.1 D.out.1.2.1 D.out.1.2.2.1 D.out.1.2.2.2).mono ?_
          rintro e w6 ⟨rfl, b6⟩
          have S6 := And.intro (D.out.2.1.drew.below b6 D.out.2.1.drew.lt) (D.out.2.2.drew.below b6)
          have B6 := S5.out.2.2.2.drew.trans (b6.mono S5.out.2.2.2.drew.size)
          refine ⟨S6, ?_⟩
          go_simp
          repeat (refine sched_pure (v := ?_) rfl rfl ?_ ?_; rotate_left; (focus (intro Y hY; have y0 := hY.1.four; have y2 := hY.2; unfold ColAt at y2; go_simp; try with_reducible rfl)); go_simp; try go_bits)
          refine sched_end ?_
          have T := Lib.hid B6
          clear S6 B6 b6
          go_wp2
          go_roundg (mL - (k + 1))
          case measure => have := Q.out.1; omega
          case rel => exact ⟨k + 1, hlt, rfl, rfl, by rw [N.out], T.out⟩
    · obtain ⟨hmL, hr, hn0, hc, hml⟩ := A.out
      obtain rfl : k = mL := by omega
      have hle : k ≤ cap := by omega
      have e0 := j0.four
      have hrr := hr.below BB
      have hRr := hR.below hb
      have T := Lib.hid (And.intro hrr (And.intro hRr (And.intro BB (And.intro hmL hc))))
      clear hr hn0 hml hrr hRr BB hmL hc hb j0 hn hR z0 hcap n1 hRL B2 A
      go_wp2_with (fail)
      refine (show Calls Try.prog 19 #[colV (c0, c1, c2, c3), .slice ad' k cap'] wr (fun e w' => e = .returned (.int .i64 (nearI (farAt (c0, c1, c2, c3) L) k)) ∧ Below wr.heap.size wr w') from T.out.2.2.2.1 ▸ nearest_any (c0, c1, c2, c3) ad' cap' L wr T.out.2.2.2.2 T.out.2.1).mono ?_
      rintro e w7 ⟨rfl, b7⟩
      have hq := (show Calls Try.prog 26 #[.slice ad' k cap', .slice ad k cap] w7 (fun e w' => e = .returned (.bool (decide (L = L))) ∧ Below w7.heap.size w7 w') from T.out.2.2.2.1 ▸ equal_any ad' ad cap' cap L L w7 (T.out.2.1.below b7) (T.out.1.below b7))
      have B7 := T.out.2.2.1.trans (b7.mono T.out.2.2.1.size)
      have E := Lib.hid (And.intro hq B7)
      clear hq B7 b7 e0
      go_wp2_with (fail)
      refine E.out.1.mono ?_
      rintro e w8 ⟨he, b8⟩
      simp only [decide_true] at he
      subst he
      have B8 := E.out.2.trans (b8.mono E.out.2.size)
      clear b8
      go_wp2
      go_ret
      exact ⟨rfl, B8⟩
end Go.Proofs.Ytnladfpckejogaa
