/- Walks: a canvas with dots. -/
import Derived.Test.YtedckelfdkfkoaaCm
import Derived.Test.YtedckelfdkfkoaaCs
import Derived.Test.YtedckelfdkfkoaaPc
import Derived.Test.YtedckelfdkfkoaaCx
import Derived.Test.YtedckelfdkfkoaaSx
namespace Go.Proofs.Ytedckelfdkfkoaa
open Go.RowKit Go.Shelf
attribute [local go_sem] Oper.semAt_some
attribute [local go_sem 2000] run_col run_tile
attribute [local go_sem ↓] Go.wp_at_zero Go.wp_at_succ
attribute [local go_sem ↓] zero25 build25 build176z build176 load25 store25
attribute [local go_sem] rowAt_alloc rowFree_alloc rowAt_drew rowFree_drew zeroA_size zc176 zeroA_ones blkOf_ptr aggOf_agg

def CWith (c : Cv) (dots : List Dot) (w : World) (e : Ending) (w' : World) : Prop := ∃ b' c', e = .returned (ptrV b') ∧ CvAt w' b' c' ∧ c'.w = c.w ∧ c'.h = c.h ∧ c'.Ts = dotsT c.w c.h c.Ts dots ∧
  (∀ i p p' : Nat, c.ps[i]? = some p → c'.ps[i]? = some p' → (p' = p ∧ c'.Ts[i]? = c.Ts[i]?) ∨ (c'.Ts[i]? ≠ c.Ts[i]? ∧ w.heap.size ≤ p')) ∧ w.heap.size ≤ b' ∧ Below w.heap.size w w'

set_option maxRecDepth 100000 in
set_option maxHeartbeats 8000000 in
theorem cwith_any (b : Nat) (c : Cv) (ad : Option Addr) (cap1 : Nat) (dots : List Dot) (w : World) (hc : CvAt w b c) (hd : DotRow w ad dots) :
    Calls Try.prog 54 #[ptrV b, .slice ad dots.length cap1] w (CWith c dots w) := by
  obtain ⟨g, cap, k⟩ := hc
  have n1 := hd.len
  unfold maxLen at n1
  have K := Lib.hid k
  have n16 := k.ok.le16
  rw [← k.ok.np] at n16
  obtain ⟨m, hm⟩ : ∃ m, c.ps.length = m := ⟨_, rfl⟩
  have wl4 := k.ok.w4
  have hl4 := k.ok.h4
  obtain ⟨m1, hm1⟩ : ∃ m1, dots.length = m1 := ⟨_, rfl⟩
  rw [hm] at n16
  rw [hm1] at n1 ⊢
  obtain ⟨n16a, n16b⟩ := n16
  have hmk := make181 m n16b
  have hmm := @run_makeMap Try.prog
  have HM := Lib.hid (And.intro hm (And.intro hm1 hd))
  have q0 := k.rec_.three
  rw [hm] at q0
  have lb := k.rec_.lt
  clear k hm hm1 hd
  go_enter Try.func54, Try.ntmps54
  go_wp2
  refine wp_region_sched [(0, false), (1, false), (2, false), (3, false), (4, false), (5, false), (6, false), (7, false), (8, false), (9, true), (10, false), (11, true), (12, false)] (Since w) (by kernel_rfl) (by kernel_rfl) (Since.refl w).drew ?_
  repeat (refine sched_pure (v := ?_) rfl rfl ?_ ?_; rotate_left; (focus (intro Y hY; have y0 := (K.out.rec_.since hY).three; rw [HM.out.1] at y0; go_simp; try with_reducible rfl)); go_simp; try go_bits)
  refine sched_act rfl rfl ?_
  go_simp
  refine ⟨((Since.refl w).alloc _).drew, ?_⟩
  clear hmk q0
  repeat (refine sched_pure (v := ?_) rfl rfl ?_ ?_; rotate_left; (focus (intro Y hY; go_simp; try with_reducible rfl)); go_simp; try go_bits)
  refine sched_act rfl rfl ?_
  go_simp
  refine ⟨(((Since.refl w).alloc _).alloc _).drew, ?_⟩
  repeat (refine sched_pure (v := ?_) rfl rfl ?_ ?_; rotate_left; (focus (intro Y hY; go_simp; try with_reducible rfl)); go_simp; try go_bits)
  refine sched_end ?_
  go_wp2
  obtain ⟨go, hgo⟩ : ∃ go, w.heap.size = go := ⟨_, rfl⟩
  generalize hX : World.drew _ = X
  have sX : Since w X := by rw [← hX]; exact (((Since.refl w).alloc _).alloc _).drew
  have szX : X.heap.size = w.heap.size + 2 := by rw [← hX]; simp
  have gX : Has X w.heap.size (.cells (nils m) 183 (0, 0)) := by rw [← hX]; exact ((Has.new _ _).alloc _).drew
  have cX : Has X (w.heap.size + 1) (.cells #[intV c.w, intV c.h, .slice (some ⟨w.heap.size, 0, none⟩) m m] 188 (0, 0)) := by rw [← hX]; exact (Has.new' (by simp)).drew
  rw [hgo] at szX gX cX lb ⊢
  have HX := Lib.hid (And.intro sX (And.intro szX (And.intro gX (And.intro cX hgo))))
  clear hX sX szX gX cX hgo
  refine wp_region_sched [(0, false), (1, false), (2, false), (3, false), (4, false), (5, false), (6, false), (7, false), (8, true)] (fun Y => Since w Y ∧ Has Y (go + 1) (.cells #[intV c.w, intV c.h, .slice (some ⟨go, 0, none⟩) m m] 188 (0, 0))) (by kernel_rfl) (by kernel_rfl) ⟨HX.out.1.drew, HX.out.2.2.2.1.drew⟩ ?_
  repeat (refine sched_pure (v := ?_) rfl rfl ?_ ?_; rotate_left; (focus (intro Y hY; have y0 := (K.out.rec_.since hY.1).three; rw [HM.out.1] at y0; have y1 := hY.2.three; go_simp; try with_reducible rfl)); go_simp; try go_bits)
  refine sched_act rfl rfl ?_
  refine wp_copy181 (.tmp 33) (.tmp 37) rfl go m m cap ⟨g, 0, none⟩ rfl rfl (nils m) HX.out.2.2.1.drew (nils_size m) c.ps HM.out.1 (fun j p hp => by rw [Addr.add_mid, Nat.zero_add]; exact cell_since (K.out.ps_ j p hp) HX.out.1.drew) ?_
  have sV : Since w (X.drew.setRow go (c.ps.map ptrV).toArray) := HX.out.1.drew.setRow (by rw [HX.out.2.2.2.2]; exact Nat.le_refl _) _
  have gV : Has (X.drew.setRow go (c.ps.map ptrV).toArray) go (.cells (c.ps.map ptrV).toArray 183 (0, 0)) := HX.out.2.2.1.drew.setRow _
  have cV : Has (X.drew.setRow go (c.ps.map ptrV).toArray) (go + 1) (.cells #[intV c.w, intV c.h, .slice (some ⟨go, 0, none⟩) m m] 188 (0, 0)) := HX.out.2.2.2.1.drew.setRow_other _ (by omega)
  have szV : (X.drew.setRow go (c.ps.map ptrV).toArray).heap.size = go + 2 := by rw [size_setRow]; exact HX.out.2.1
  refine ⟨⟨sV, cV⟩, ?_⟩
  generalize World.setRow X.drew go (c.ps.map ptrV).toArray = V at sV gV cV szV ⊢
  have HV := Lib.hid (And.intro sV (And.intro gV (And.intro cV (And.intro szV HX.out.2.2.2.2))))
  have q1 := cV.three
  have lV := cV.lt
  clear sV gV cV szV HX
  go_simp
  refine sched_end ?_
  go_wp2
  obtain ⟨bm, hbm⟩ : ∃ bm, V.heap.size = bm := ⟨_, rfl⟩
  generalize hX : World.alloc _ _ = X
  have sX : Since V X := by rw [← hX]; exact (Since.refl V).alloc _
  have mX : Has X V.heap.size (mapO natW ptrV []) := by rw [← hX]; exact Has.new _ _
  have szX : X.heap.size = V.heap.size + 1 := by rw [← hX]; simp
  rw [hbm] at mX szX ⊢
  have st0 := WSt.start K.out.ok mX
  have HX := Lib.hid (And.intro sX (And.intro szX hbm))
  have en' : ∀ args w, (callFunc 141 args).run Try.prog w = .ok (.enter 141 args) w := enters_of Try.func141 (by kernel_rfl) rfl
  have En := Lib.hid en'
  clear en' hX sX mX szX hbm q1 hmm lV
  go_loopg [47] m1 (fun n i wr => ∃ (k : Nat) (mp : List (Nat × Nat)), k ≤ m1 ∧ n = m1 - k ∧ i = .int .i64 k ∧ WSt c X bm (dotsT c.w c.h c.Ts (dots.take k)) mp wr)
  case atStart => exact ⟨0, [], by omega, by omega, rfl, by rw [List.take_zero]; exact st0⟩
  case round =>
    clear st0
    obtain ⟨k, mp, hk, hn, rfl, hst⟩ := hrel
    by_cases hlt : k < m1
    · obtain ⟨hm, hm1, hd⟩ := HM.out
      obtain ⟨⟨dx, dy, d0, d1, d2, d3⟩, hdk⟩ : ∃ d, dots[k]? = some d := ⟨_, List.getElem?_eq_getElem (by omega)⟩
      have sw : Since w wr := (HV.out.1.trans HX.out.1).grew hst.grew (by simp; have := HV.out.2.2.2; have := HX.out.2.2; omega)
      obtain ⟨a, rfl, q⟩ := (hd.since sw).at_ k _ hdk
      unfold DotAt at q
      simp only [] at q
      have htk : dotsT c.w c.h c.Ts (dots.take (k + 1)) = dotT c.w c.h (dotsT c.w c.h c.Ts (dots.take k)) (dx, dy, d0, d1, d2, d3) := by rw [← take_snoc hdk, dotsT_snoc]
      have J := Lib.hid (And.intro hn (And.intro hst (And.intro sw (And.intro htk hdk))))
      have en' := En.out
      clear hn hst sw htk hdk hm hm1 hd
      cases hB : onB c.w c.h dx dy with
      | false =>
        have HB := Lib.hid hB
        clear hB
        go_wp2_with (fail)
        refine (place_no c.w c.h dx dy _ wl4 hl4 HB.out).mono ?_
        rintro e w1 ⟨rfl, b1⟩
        have s1 : Since wr w1 := ((Since.refl wr).alloc _).step b1
        have S1 := Lib.hid s1
        clear q b1 s1 en'
        go_wp2
        obtain ⟨hn, hst, sw, htk, hdk⟩ := J.out
        go_roundg (m1 - (k + 1))
        case measure => omega
        case rel =>
          refine ⟨k + 1, mp, hlt, rfl, by go_num, ?_⟩
          have e1 : dotT c.w c.h (dotsT c.w c.h c.Ts (dots.take k)) (dx, dy, d0, d1, d2, d3) = dotsT c.w c.h c.Ts (dots.take k) := by unfold dotT; rw [HB.out]; rfl
          rw [htk, e1]
          exact hst.since (S1.out.alloc _)
      | true =>
        obtain ⟨ax, ay, hax, hay, rfl, rfl⟩ := onB_nat hB
        have HB := Lib.hid hB
        clear hB
        go_wp2_with (fail)
        refine (place_yes c.w c.h ax ay _ wl4 hl4 hax hay).mono ?_
        rintro e w1 ⟨rfl, b1⟩
        have hn0 := tileN_lt hax hay
        obtain ⟨n, hnn⟩ : ∃ n, tileN c.w ax ay = n := ⟨_, rfl⟩
        obtain ⟨u, hu⟩ : ∃ u, ax % 8 = u := ⟨_, rfl⟩
        obtain ⟨v, hv⟩ : ∃ v, ay % 8 = v := ⟨_, rfl⟩
        have u8 : u < 8 := by omega
        have v8 : v < 8 := by omega
        rw [hnn, hu, hv]
        rw [hnn] at hn0
        have n16 : n < 16 := by have := K.out.ok.le16; omega
        have hnm : n < m := by rw [← HM.out.1, K.out.ok.np]; exact hn0
        have s1 : Since wr w1 := ((Since.refl wr).alloc _).step b1
        have dB := (Has.new wr (.cells (dotC ((ax : Int), (ay : Int), d0, d1, d2, d3)) 81 (0, 0))).below b1 (Has.new _ _).lt
        have st1 := J.out.2.1.since s1
        have sw1 := J.out.2.2.1.trans s1
        have htk := J.out.2.2.2.1
        have hT0 : (dotsT c.w c.h c.Ts (dots.take (k + 1))) = (dotsT c.w c.h c.Ts (dots.take k)).modify n (fun T => T.set (v * 8 + u) (d0, d1, d2, d3)) := by
          rw [htk]
          unfold dotT
          rw [if_pos HB.out]
          simp only [Int.toNat_natCast, hnn, hu, hv]
        obtain ⟨T, hT⟩ : ∃ T, (dotsT c.w c.h c.Ts (dots.take k))[n]? = some T := ⟨_, List.getElem?_eq_getElem (by rw [st1.len]; exact hn0)⟩
        have lT : T.length = 64 := dotsT_l64 K.out.ok.l64 T (List.mem_of_getElem? hT)
        have z0' : ∀ Y, (zeroValue 183).run Try.prog Y = .ok (.pointer none) Y := fun _ => by kernel_rfl
        have k16 : ∀ e ∈ mp, e.1 ≤ 16 := fun e he => by have := st1.keys e he; have := K.out.ok.le16; omega
        have hlk := map_look (vv := ptrV) keys3 (t := 190) (e := 183) (by kernel_rfl) (z0' _) (st1.map_.alloc (.cells #[.int .i64 (u : Int), .int .i64 (v : Int)] 43)) k16 st1.nodup (x := n) (by omega)
        have J1 := Lib.hid (And.intro J.out.1 (And.intro st1 (And.intro sw1 (And.intro dB (And.intro hT0 hT)))))
        have UV := Lib.hid (And.intro hnn (And.intro hu hv))
        have K16 := Lib.hid k16
        have q1 := (K.out.rec_.since (sw1.alloc (.cells #[.int .i64 (u : Int), .int .i64 (v : Int)] 43))).three
        rw [HM.out.1] at q1
        have l1 := dB.lt
        have lb1 : b < w1.heap.size := (K.out.rec_.since sw1).lt
        obtain ⟨p0, T0, hp0, hT00, hcell0, hrow0, lT0, _⟩ := K.out.tile hn0
        have c0 := cell_since hcell0 (sw1.alloc (.cells #[.int .i64 (u : Int), .int .i64 (v : Int)] 43))
        have lg := cell_lt hcell0
        have lg1 : g < w1.heap.size := Nat.lt_of_lt_of_le lg sw1.size
        have r0 := (hrow0.since (sw1.alloc (.cells #[.int .i64 (u : Int), .int .i64 (v : Int)] 43))).row
        have lp0 : p0 < w1.heap.size := (hrow0.since sw1).lt
        have P0 := Lib.hid (And.intro hp0 (And.intro hT00 hcell0))
        clear q b1 s1 st1 sw1 dB hT0 hT htk hnn hu hv k16 z0' hp0 hT00 hcell0 hrow0 lg
        by_cases hkey : n ∈ mp.map Prod.fst
        · obtain ⟨⟨n', p⟩, hmem, rfl⟩ := List.mem_map.1 hkey
          simp only [] at *
          obtain ⟨ix, hix⟩ := List.getElem?_of_mem hmem
          rw [lkp_some J1.out.2.1.nodup hix] at hlk
          simp only [Option.elim_some] at hlk
          have MEM := Lib.hid (And.intro hmem hix)
          clear hmem hix hkey c0 r0 q1
          go_wp2
          clear hlk
          obtain ⟨n, rfl⟩ : ∃ n, n = n' := ⟨_, rfl⟩
          obtain ⟨mq, rfl⟩ : ∃ mq, mq = mp := ⟨_, rfl⟩
          generalize hWc : World.alloc _ _ = Wc
          have St := Lib.hid (show WSt c X bm (dotsT c.w c.h c.Ts (dots.take k)) mq Wc ∧ (n, p) ∈ mq ∧ Has Wc wr.heap.size (.cells (dotC ((ax : Int), (ay : Int), d0, d1, d2, d3)) 81 (0, 0)) ∧ Has Wc w1.heap.size (.cells #[.int .i64 (u : Int), .int .i64 (v : Int)] 43 (0, 0)) from by
            rw [← hWc]
            exact ⟨J1.out.2.1.since ((Since.refl w1).alloc _), MEM.out.1, J1.out.2.2.2.1.alloc _, Has.new _ _⟩)
          clear hWc
          have mq16 : ∀ e ∈ mq, e.1 ≤ 16 := fun e he => by have := St.out.1.keys e he; have := K.out.ok.le16; omega
          obtain ⟨ix, hix⟩ := List.getElem?_of_mem St.out.2.1
          have LK := Lib.hid (fun Y (hY : Since Wc Y) => show (Instr.lookup 190 (.map (some bm)) (natV n) false).run Try.prog Y = .ok (ptrV p) Y from by
            have z0' : ∀ Y, (zeroValue 183).run Try.prog Y = .ok (.pointer none) Y := fun _ => by kernel_rfl
            have := map_look (vv := ptrV) keys3 (t := 190) (e := 183) (by kernel_rfl) (z0' _) (St.out.1.map_.since hY) mq16 St.out.1.nodup (x := n) (by omega)
            rw [lkp_some St.out.1.nodup hix] at this
            exact this)
          have hsT : (tileA T).size = 256 := by rw [tileA_size, lT]
          have rT := St.out.1.tiles n p T St.out.2.1 J1.out.2.2.2.2.2
          have R0 := Lib.hid rT.rowS
          have RT := Lib.hid rT
          clear mq16 hix rT
          refine Late.wp_region_tree (.free 0 (.free 1 (.pure 2 (.free 3 (.free 4 (.pure 5 (.pure 6 (.pure 7 (.pure 8 (.pure 9 (.pure 10 (.act 11 (.act 12 (.free 13 (.free 14 (.free 15 (.pure 16 (.last 17)))))))))))))))))) (Since Wc) (by kernel_rfl) (by kernel_rfl) (by kernel_rfl) (Since.refl Wc).drew ?_
          repeat (first | (refine Late.tree_free (v := ?_) rfl rfl ?_ ?_; rotate_left; (focus (intro Y; go_simp; try with_reducible rfl)); go_simp; try go_bits) | (refine Late.tree_pure (v := ?_) rfl rfl ?_ ?_; rotate_left; (focus (intro Y hY; first | (refine (exec_tile (R0.out Y hY) hsT rfl).trans ?_; with_reducible rfl) | (have y0 := LK.out Y hY; have y1 := (St.out.2.2.1.since hY).six; have y2 := (St.out.2.2.2.since hY).two; go_simp; try with_reducible rfl))); go_simp; try go_bits))
          refine Late.tree_act rfl rfl ?_
          go_simp
          have sa : Since Wc (Wc.alloc (.cells #[.int .i64 (u : Int), .int .i64 (v : Int)] 43)).drew := ((Since.refl Wc).alloc _).drew
          have pn := (Has.new Wc (.cells #[.int .i64 (u : Int), .int .i64 (v : Int)] 43 (0, 0))).drew
          refine ⟨sa, ?_⟩
          refine Late.tree_act rfl rfl ?_
          go_simp
          refine (with_any T (d0, d1, d2, d3) (some ⟨Wc.heap.size, 0, none⟩) 1 [((u : Int), (v : Int))] _ lT (ptRow_1 pn (by unfold WdP; simp only []; omega))).mono ?_
          rintro e w3 ⟨rfl, b3⟩
          rw [withR_1 u8 v8]
          have s3 := sa.step b3
          refine ⟨s3, ?_⟩
          have St3 := St.out.1.since s3
          have t3 := RT.out.since s3
          have e3 := t3.row
          have f3 := t3.rowFree
          have hs3 : (tileA (T.set (v * 8 + u) (d0, d1, d2, d3))).size = 256 := by rw [tileA_size, List.length_set, lT]
          have ho3 := onesB_tile (T.set (v * 8 + u) (d0, d1, d2, d3))
          obtain ⟨A3, hA3⟩ : ∃ A, tileA (T.set (v * 8 + u) (d0, d1, d2, d3)) = A := ⟨_, rfl⟩
          rw [hA3] at hs3 ho3 ⊢
          have H3 := Lib.hid (And.intro St3 hA3)
          clear sa pn b3 s3 St3 t3 hA3
          repeat (first | (refine Late.tree_free (v := ?_) rfl rfl ?_ ?_; rotate_left; (focus (intro Y; go_simp; try with_reducible rfl)); go_simp; try go_bits) | (refine Late.tree_pure (v := ?_) rfl rfl ?_ ?_; rotate_left; (focus (intro Y hY; first | (refine (exec_tile (R0.out Y hY) hsT rfl).trans ?_; with_reducible rfl) | (go_simp; try with_reducible rfl))); go_simp; try go_bits))
          refine Late.tree_last rfl rfl ?_
          go_simp
          go_wp2
          go_roundg (m1 - (k + 1))
          case measure => have := J1.out.1; omega
          case rel =>
            refine ⟨k + 1, mq, hlt, rfl, by go_num, ?_⟩
            rw [J1.out.2.2.2.2.1]
            have := H3.out.1.put St.out.2.1 J1.out.2.2.2.2.2 (fun T => T.set (v * 8 + u) (d0, d1, d2, d3))
            rw [H3.out.2] at this
            exact this
        · have KEY := Lib.hid hkey
          rw [lkp_none hkey] at hlk
          simp only [Option.elim_none] at hlk
          clear hkey
          have hs0 : (tileA T0).size = 256 := by rw [tileA_size, lT0]
          have ho0 := onesB_tile T0
          obtain ⟨A, hA⟩ : ∃ A, tileA T0 = A := ⟨_, rfl⟩
          rw [hA] at hs0 ho0 r0
          have HA := Lib.hid hA
          clear hA
          go_wp2_with (fail)
          obtain ⟨p, hp⟩ : ∃ p, w1.heap.size + 1 = p := ⟨_, rfl⟩
          rw [hp]
          generalize hW3 : World.setRow _ _ _ = W3
          have s3 : Since w1 W3 := by rw [← hW3]; exact (((Since.refl w1).alloc _).alloc _).setRow (by omega) _
          have t3 : Has W3 p (.cells (tileA T0) 25 (0, 0)) := by
            rw [← hW3, HA.out]
            exact (Has.new' (o := .cells zeroA 25) (by rw [World.size_alloc, hp])).setRow _
          have d3' : Has W3 wr.heap.size (.cells (dotC ((ax : Int), (ay : Int), d0, d1, d2, d3)) 81 (0, 0)) := J1.out.2.2.2.1.since s3
          have pt3 : Has W3 w1.heap.size (.cells #[.int .i64 (u : Int), .int .i64 (v : Int)] 43 (0, 0)) := by
            rw [← hW3]; exact ((Has.new _ _).alloc _).setRow_other _ (by omega)
          have St3 := J1.out.2.1.since s3
          have hTT : T0 = T := by
            have h1 := St3.rest n hn0 KEY.out
            rw [P0.out.2.1, J1.out.2.2.2.2.2] at h1
            exact (Option.some.inj h1).symm
          obtain rfl : T = T0 := hTT.symm
          have hnp : p ∉ mp.map Prod.snd := fun hmm => by
            obtain ⟨e, he, e2⟩ := List.mem_map.1 hmm
            have h1 := (J1.out.2.1.tiles e.1 e.2)
            obtain ⟨T', hT'⟩ : ∃ T', (dotsT c.w c.h c.Ts (dots.take k))[e.1]? = some T' := ⟨_, List.getElem?_eq_getElem (by rw [J1.out.2.1.len]; exact J1.out.2.1.keys e he)⟩
            have := (h1 T' he hT').lt
            omega
          have hxp : X.heap.size ≤ p := by have := J1.out.2.1.grew.size; omega
          have St4 := St3.add hn0 KEY.out J1.out.2.2.2.2.2 t3 hxp hnp
          have hmu := map_update_new (vv := ptrV) keys3 (t := 190) (e := 183) (by kernel_rfl) St3.map_ K16.out (x := n) (by omega) KEY.out p
          have bl : bm < w1.heap.size := J1.out.2.1.map_.lt
          have H4 := Lib.hid (And.intro St4 (And.intro d3' pt3))
          have SMALL := Lib.hid (And.intro hp (And.intro bl (show bm ≠ wr.heap.size ∧ bm ≠ w1.heap.size from ⟨fun e => by have := J1.out.2.1.low; have := J.out.2.1.grew.size; omega, by omega⟩)))
          clear s3 t3 d3' pt3 St3 hnp hxp St4 hW3 hlk q1 c0 r0 hs0 ho0 hp bl
          rw [hmu]
          go_wp2
          clear hmu
          obtain ⟨mq, hmq⟩ : ∃ mq, mp ++ [(n, p)] = mq := ⟨_, rfl⟩
          have St := Lib.hid (show WSt c X bm (dotsT c.w c.h c.Ts (dots.take k)) mq (W3.putObj bm (mapO natV ptrV mq)) ∧ (n, p) ∈ mq ∧ Has (W3.putObj bm (mapO natV ptrV mq)) wr.heap.size (.cells (dotC ((ax : Int), (ay : Int), d0, d1, d2, d3)) 81 (0, 0)) ∧ Has (W3.putObj bm (mapO natV ptrV mq)) w1.heap.size (.cells #[.int .i64 (u : Int), .int .i64 (v : Int)] 43 (0, 0)) from by
            rw [← hmq]
            exact ⟨H4.out.1, by simp, H4.out.2.1.putOther _ (Ne.symm SMALL.out.2.2.1), H4.out.2.2.putOther _ (Ne.symm SMALL.out.2.2.2)⟩)
          rw [hmq]
          clear hmq H4
          generalize hWc : World.putObj W3 bm (mapO natV ptrV mq) = Wc at St ⊢
          clear hWc
          have mq16 : ∀ e ∈ mq, e.1 ≤ 16 := fun e he => by have := St.out.1.keys e he; have := K.out.ok.le16; omega
          obtain ⟨ix, hix⟩ := List.getElem?_of_mem St.out.2.1
          have LK := Lib.hid (fun Y (hY : Since Wc Y) => show (Instr.lookup 190 (.map (some bm)) (natV n) false).run Try.prog Y = .ok (ptrV p) Y from by
            have z0' : ∀ Y, (zeroValue 183).run Try.prog Y = .ok (.pointer none) Y := fun _ => by kernel_rfl
            have := map_look (vv := ptrV) keys3 (t := 190) (e := 183) (by kernel_rfl) (z0' _) (St.out.1.map_.since hY) mq16 St.out.1.nodup (x := n) (by omega)
            rw [lkp_some St.out.1.nodup hix] at this
            exact this)
          have hsT : (tileA T).size = 256 := by rw [tileA_size, lT]
          have rT := St.out.1.tiles n p T St.out.2.1 J1.out.2.2.2.2.2
          have R0 := Lib.hid rT.rowS
          have RT := Lib.hid rT
          clear mq16 hix rT
          refine Late.wp_region_tree (.free 0 (.free 1 (.pure 2 (.free 3 (.free 4 (.pure 5 (.pure 6 (.pure 7 (.pure 8 (.pure 9 (.pure 10 (.act 11 (.act 12 (.free 13 (.free 14 (.free 15 (.pure 16 (.last 17)))))))))))))))))) (Since Wc) (by kernel_rfl) (by kernel_rfl) (by kernel_rfl) (Since.refl Wc).drew ?_
          repeat (first | (refine Late.tree_free (v := ?_) rfl rfl ?_ ?_; rotate_left; (focus (intro Y; go_simp; try with_reducible rfl)); go_simp; try go_bits) | (refine Late.tree_pure (v := ?_) rfl rfl ?_ ?_; rotate_left; (focus (intro Y hY; first | (refine (exec_tile (R0.out Y hY) hsT rfl).trans ?_; with_reducible rfl) | (have y0 := LK.out Y hY; have y1 := (St.out.2.2.1.since hY).six; have y2 := (St.out.2.2.2.since hY).two; go_simp; try with_reducible rfl))); go_simp; try go_bits))
          refine Late.tree_act rfl rfl ?_
          go_simp
          have sa : Since Wc (Wc.alloc (.cells #[.int .i64 (u : Int), .int .i64 (v : Int)] 43)).drew := ((Since.refl Wc).alloc _).drew
          have pn := (Has.new Wc (.cells #[.int .i64 (u : Int), .int .i64 (v : Int)] 43 (0, 0))).drew
          refine ⟨sa, ?_⟩
          refine Late.tree_act rfl rfl ?_
          go_simp
          refine (with_any T (d0, d1, d2, d3) (some ⟨Wc.heap.size, 0, none⟩) 1 [((u : Int), (v : Int))] _ lT (ptRow_1 pn (by unfold WdP; simp only []; omega))).mono ?_
          rintro e w3 ⟨rfl, b3⟩
          rw [withR_1 u8 v8]
          have s3 := sa.step b3
          refine ⟨s3, ?_⟩
          have St3 := St.out.1.since s3
          have t3 := RT.out.since s3
          have e3 := t3.row
          have f3 := t3.rowFree
          have hs3 : (tileA (T.set (v * 8 + u) (d0, d1, d2, d3))).size = 256 := by rw [tileA_size, List.length_set, lT]
          have ho3 := onesB_tile (T.set (v * 8 + u) (d0, d1, d2, d3))
          obtain ⟨A3, hA3⟩ : ∃ A, tileA (T.set (v * 8 + u) (d0, d1, d2, d3)) = A := ⟨_, rfl⟩
          rw [hA3] at hs3 ho3 ⊢
          have H3 := Lib.hid (And.intro St3 hA3)
          clear sa pn b3 s3 St3 t3 hA3
          repeat (first | (refine Late.tree_free (v := ?_) rfl rfl ?_ ?_; rotate_left; (focus (intro Y; go_simp; try with_reducible rfl)); go_simp; try go_bits) | (refine Late.tree_pure (v := ?_) rfl rfl ?_ ?_; rotate_left; (focus (intro Y hY; first | (refine (exec_tile (R0.out Y hY) hsT rfl).trans ?_; with_reducible rfl) | (go_simp; try with_reducible rfl))); go_simp; try go_bits))
          refine Late.tree_last rfl rfl ?_
          go_simp
          go_wp2
          go_roundg (m1 - (k + 1))
          case measure => have := J1.out.1; omega
          case rel =>
            refine ⟨k + 1, mq, hlt, rfl, by go_num, ?_⟩
            rw [J1.out.2.2.2.2.1]
            have := H3.out.1.put St.out.2.1 J1.out.2.2.2.2.2 (fun T => T.set (v * 8 + u) (d0, d1, d2, d3))
            rw [H3.out.2] at this
            exact this
    · obtain rfl : k = m1 := by omega
      have hd0 : dots.take k = dots := List.take_of_length_le (by have := HM.out.2.1; omega)
      rw [hd0] at hst
      have l64 : ∀ T ∈ dotsT c.w c.h c.Ts dots, T.length = 64 := dotsT_l64 K.out.ok.l64
      have bys := dotsT_by (w := c.w) (h := c.h) K.out.ok.by_ HM.out.2.2.by_
      obtain ⟨Tk, hTk⟩ : ∃ Tk, dotsT c.w c.h c.Ts dots = Tk := ⟨_, rfl⟩
      rw [hTk] at hst l64 bys
      have hrg := run_range_map (P := Try.prog) wr 190 3 183 bm (entL natV ptrV mp).toArray mp.length (by kernel_rfl) hst.map_
      have J := Lib.hid (And.intro hst (And.intro hTk (And.intro l64 bys)))
      clear hst hTk l64 bys hn hd0
      go_wp2
      clear hrg
      obtain ⟨ri, hri⟩ : ∃ ri, wr.heap.size = ri := ⟨_, rfl⟩
      rw [hri]
      generalize hY : World.alloc _ _ = Y
      have sY : Since wr Y := by rw [← hY]; exact (Since.refl wr).alloc _
      have iY : Has Y ri (.mapIter (some bm) mp.length #[] mp.length) := by rw [← hY, ← hri]; exact Has.new _ _
      have stY := J.out.1.since sY
      have sw : Since w wr := (HV.out.1.trans HX.out.1).grew J.out.1.grew (by simp; have := HV.out.2.2.2; have := HX.out.2.2; omega)
      have swY := sw.trans sY
      have gY0 : Has wr go (.cells (c.ps.map ptrV).toArray 183 (0, 0)) := (HV.out.2.1.since HX.out.1).grew J.out.1.grew (by simp; have := HV.out.2.2.2; have := HX.out.2.2; omega)
      have cY0 : Has wr (go + 1) (.cells #[intV c.w, intV c.h, .slice (some ⟨go, 0, none⟩) m m] 188 (0, 0)) := (HV.out.2.2.1.since HX.out.1).grew J.out.1.grew (by simp; have := HV.out.2.2.2; have := HX.out.2.2; omega)
      have oY := OutSt.start (Tk := Tk) (m := mp) K.out.ok (gY0.since sY)
      have cY := cY0.since sY
      have lows : go + 2 ≤ bm ∧ bm < ri ∧ w.heap.size = go ∧ X.heap.size = bm + 1 := by
        have h1 := HV.out.2.2.2
        have h2 := HX.out.2
        have h3 := J.out.1.map_.lt
        omega
      have HY := Lib.hid (And.intro stY (And.intro swY (And.intro cY (And.intro lows (And.intro J.out.2 iY)))))
      clear hY sY stY sw swY gY0 cY0 cY lows hri J
      go_loopg [99] mp.length (fun n _ wr => ∃ (seen : Array Nat) (c0 : Nat), Hid (SeenOk mp.length n seen ∧ mp.length ≤ c0 ∧ Has wr ri (.mapIter (some bm) mp.length seen c0) ∧ OutSt c Tk mp go seen wr ∧ Grew [go, ri] Y wr))
      case atStart => exact ⟨#[], mp.length, Lib.hid ⟨SeenOk.start _, Nat.le_refl _, iY, oY, Grew.refl _ _⟩⟩
      case round =>
        clear iY oY
        obtain ⟨seen, c0, hj⟩ := hrel
        obtain ⟨stY, swY, cY, lows, _, _⟩ := HY.out
        have mW : Has wr bm (mapO natV ptrV mp) := stY.map_.grew hj.out.2.2.2.2 (by simp; omega)
        have hlo : ∀ q, q < ri → q ≠ go → ∀ o, Has Y q o → Has wr q o := fun q h1 h2 o ho => ho.grew hj.out.2.2.2.2 (by simp; omega)
        rcases run_next_map (P := Try.prog) 0 hj.out.2.2.1 mW hj.out.2.1 with ⟨hall, hnx⟩ | ⟨i, ⟨n, p⟩, W1, hi, hs, hW, hnx, hen⟩
        · have J := Lib.hid (And.intro hj.out hall)
          clear hj hall mW hlo stY swY cY lows
          go_wp2
          go_ret
          obtain ⟨⟨_, _, _, hO, hG⟩, hall⟩ := J.out
          obtain ⟨stY, swY, cY, lows, ⟨hTk, l64, bys⟩, iY⟩ := HY.out
          obtain ⟨cs, hcs, hps⟩ := hO.done hall
          have hk : ∀ e ∈ mp, ∀ o, Has Y e.2 o → Has wr e.2 o := fun e he o ho => by
            refine ho.grew hG ?_
            have h1 := stY.fresh e he
            obtain ⟨T', hT'⟩ : ∃ T', Tk[e.1]? = some T' := ⟨_, List.getElem?_eq_getElem (by rw [stY.len]; exact stY.keys e he)⟩
            have h2 := (stY.tiles e.1 e.2 T' he hT').ne iY (by simp)
            simp; omega
          have swr : Since w wr := swY.grew hG (by simp; omega)
          have hm : c.w * c.h = m := by rw [← K.out.ok.np]; exact HM.out.1
          have hel : (endC c Tk mp).ps.length = m := by simp [endC, hm]
          refine ⟨go + 1, endC c Tk mp, rfl, ⟨go, m, ⟨endC_ok K.out.ok stY.len l64 bys, ?_, by omega, ?_, endC_ts stY K.out.ok (K.out.ts_.since swr) hk⟩⟩, rfl, rfl, hTk.symm, ?_, by omega, swr⟩
          · rw [hel]
            exact cY.grew hG (by simp; omega)
          · intro i q hq
            obtain ⟨hi, rfl⟩ := endC_at hq
            exact (hcs.cell i).trans (hps i hi)
          · intro i q q' hq hq'
            rcases endC_share stY hq hq' with h | ⟨h1, h2⟩
            · exact .inl h
            · exact .inr ⟨h1, by omega⟩
        · have sW1 : Since wr W1 := by rcases hW with rfl | rfl; exact Since.refl _; exact (Since.refl _).drew
          obtain ⟨W2, hW2⟩ : ∃ W2, Go.ChangeMaps.setBlock W1 ri (.mapIter (some bm) mp.length (seen.push i) mp.length) = W2 := ⟨_, rfl⟩
          rw [hW2] at hnx hen
          have gW2 : Grew [go, ri] Y W2 := by rw [← hW2]; exact (hj.out.2.2.2.2.trans (below_grew sW1 _)).setBlock _ (.inl (by simp))
          have iW2 : Has W2 ri (.mapIter (some bm) mp.length (seen.push i) mp.length) := by rw [← hW2]; exact Has.setBlock_same (Nat.lt_of_lt_of_le hj.out.2.2.1.lt sW1.size) _
          have oW2 : OutSt c Tk mp go seen W2 := hj.out.2.2.2.1.has fun o ho => by rw [← hW2]; exact (ho.since sW1).setBlock_other _ (by omega)
          have ilt : i < mp.length := (List.getElem?_eq_some_iff.1 hi).1
          obtain ⟨n', hn', sk⟩ := hj.out.1.push ilt hs
          have hmem := List.mem_of_getElem? hi
          have hkey := stY.keys _ hmem
          have hfr := stY.fresh _ hmem
          simp only [] at hkey hfr
          obtain ⟨T, hT⟩ : ∃ T, Tk[n]? = some T := ⟨_, List.getElem?_eq_getElem (by rw [stY.len]; exact hkey)⟩
          obtain ⟨p0, T0, hp0, hT0, hcell0, hrow0, lT0, _⟩ := K.out.tile hkey
          have lT := HY.out.2.2.2.2.1.2.1 T (List.mem_of_getElem? hT)
          have hsT : (tileA T).size = 256 := by rw [tileA_size, lT]
          have hsT0 : (tileA T0).size = 256 := by rw [tileA_size, lT0]
          have tY := stY.tiles n p T hmem hT
          have pne : p ≠ ri := tY.ne HY.out.2.2.2.2.2 (by simp)
          have tW2 : Has W2 p (.cells (tileA T) 25 (0, 0)) := tY.grew gW2 (by simp; omega)
          have lk := K.out.low
          have swW2 : Since w W2 := swY.grew gW2 (by simp; omega)
          have rW2 := hrow0.since swW2
          have kW2 := K.out.rec_.since swW2
          have cW2 := cell_since hcell0 swW2
          have oR := cY.grew gW2 (by simp; omega)
          have R0 := Lib.hid tW2.rowS
          have R1 := Lib.hid rW2.rowS
          rw [HM.out.1] at kW2
          have q1 := oR.three
          have hnm : n < m := by rw [← HM.out.1, K.out.ok.np]; exact hkey
          have lgo : go < W2.heap.size := by have := oR.lt; omega
          obtain ⟨⟨v0, hc0⟩, hf0⟩ := oW2.cell hkey
          have J := Lib.hid (And.intro hn' (And.intro sk (And.intro iW2 (And.intro oW2 (And.intro gW2 (And.intro kW2 (And.intro cW2 (And.intro oR (And.intro hT (And.intro hT0 (And.intro hi (And.intro hkey lows))))))))))))
          have ND := Lib.hid stY.nodup
          clear hn' sk iW2 oW2 gW2 kW2 cW2 oR hT hT0 hi hkey stY swY cY lows mW hlo hs hW sW1 hW2 ilt hmem hfr hp0 hcell0 hrow0 tY pne tW2 lk swW2 rW2 hj
          by_cases hTT : T = T0
          · subst hTT
            go_wp2
            refine wp_region_sched [(0, false), (1, false), (2, false), (3, false), (4, false), (5, false), (6, false), (7, false), (8, false), (9, false), (10, false), (11, false), (12, false)] (Since W2) (by kernel_rfl) (by kernel_rfl) (Since.refl W2).drew ?_
            repeat (refine sched_pure (v := ?_) rfl rfl ?_ ?_; rotate_left; (focus (intro Y hY; first | (refine (exec_tile (R0.out Y hY) hsT rfl).trans ?_; with_reducible rfl) | (refine (exec_tile (R1.out Y hY) hsT rfl).trans ?_; with_reducible rfl) | (have y0 := (J.out.2.2.2.2.2.1.since hY).three; have y1 := cell_since J.out.2.2.2.2.2.2.1 hY; go_simp; try with_reducible rfl))); go_simp; try go_bits)
            refine sched_end ?_
            go_wp2
            obtain ⟨hn', sk, iW2, oW2, gW2, kW2, cW2, oR, hT, hT0, hi, hkey, lows⟩ := J.out
            go_roundg n'
            case measure => omega
            case rel => exact ⟨seen.push i, mp.length, Lib.hid ⟨sk, Nat.le_refl _, iW2.drew, (oW2.skip ND.out hi (hT.trans hT0.symm)).has (fun o h => h.drew), gW2.drew⟩⟩
          · go_wp2
            refine wp_region_sched [(0, false), (1, false), (2, false), (3, false), (4, false), (5, false), (6, false), (7, false), (8, false), (9, false), (10, false), (11, false), (12, false)] (Since W2) (by kernel_rfl) (by kernel_rfl) (Since.refl W2).drew ?_
            have hTd : decide (T = T0) = false := decide_eq_false hTT
            repeat (refine sched_pure (v := ?_) rfl rfl ?_ ?_; rotate_left; (focus (intro Y hY; first | (refine (exec_tile (R0.out Y hY) hsT rfl).trans ?_; with_reducible rfl) | (refine (exec_tile (R1.out Y hY) hsT0 rfl).trans ?_; with_reducible rfl) | (have y0 := (J.out.2.2.2.2.2.1.since hY).three; have y1 := cell_since J.out.2.2.2.2.2.2.1 hY; go_simp; try with_reducible rfl))); go_simp; try go_bits)
            refine sched_end ?_
            have HTT := Lib.hid hTT
            clear hTT hTd
            go_wp2
            obtain ⟨hn', sk, iW2, oW2, gW2, kW2, cW2, oR, hT, hT0, hi, hkey, lows⟩ := J.out
            go_roundg n'
            case measure => omega
            case rel =>
              have hd : Tk[n]? ≠ c.Ts[n]? := fun e => HTT.out (Option.some.inj ((hT.symm.trans e).trans hT0))
              exact ⟨seen.push i, mp.length, Lib.hid ⟨sk, Nat.le_refl _, (iW2.other (ptrV p) (by show ri ≠ go; omega)).drew, (oW2.store ND.out hi hkey hd).has (fun o h => h.drew), (gW2.setCell (a := ⟨go, n, none⟩) (ptrV p) (.inl (by simp))).drew⟩⟩
set_option maxRecDepth 100000 in
set_option maxHeartbeats 400000 in
theorem cwith_nil (v : Value) (w : World) : Calls Try.prog 54 #[.pointer none, v] w fun e w' => e = .returned (.pointer none) ∧ Below w.heap.size w w' := by
  go_enter Try.func54, Try.ntmps54
  go_wp2
  go_ret
  exact ⟨rfl, Below.refl _ _⟩
end Go.Proofs.Ytedckelfdkfkoaa
