/- CanvasBack: what was painted on one version is on no older one. -/
import Derived.Test.YtedckelfdkfkoaaWc
import Derived.Test.YtedckelfdkfkoaaCi
import Derived.Test.YtedckelfdkfkoaaCh
namespace Go.Proofs.Ytedckelfdkfkoaa
open Go.RowKit Go.Shelf
attribute [local go_sem] Oper.semAt_some
attribute [local go_sem 2000] run_col run_tile
attribute [local go_sem] colB_self
attribute [local go_sem ↓] Go.wp_at_zero Go.wp_at_succ
attribute [local go_sem ↓] zero25 build25 build176z build176 load25 store25
attribute [local go_sem] World.setRow_alloc_new
attribute [local go_sem] rowAt_alloc rowFree_alloc rowAt_drew rowFree_drew zeroA_size zc176 zeroA_ones blkOf_ptr aggOf_agg

theorem csame_self {c d : Cv} (h1 : c.w = d.w) (h2 : c.h = d.h) (h3 : c.Ts = d.Ts) : csame c d = true := decide_eq_true ⟨h1, h2, h3⟩
theorem sameN_fresh {n : Nat} : ∀ {ps qs : List Nat}, (∀ p ∈ ps, n ≤ p) → (∀ q ∈ qs, q < n) → sameN ps qs = 0
  | p :: ps, q :: qs, h, k => by
    have ih := sameN_fresh (ps := ps) (qs := qs) (fun p hp => h p (by simp [hp])) (fun q hq => k q (by simp [hq]))
    have h1 := h p (by simp)
    have h2 := k q (by simp)
    show (if p = q then 1 else 0) + sameN ps qs = 0
    rw [ih, if_neg (by omega)]
  | [], _, _, _ => by simp [sameN]
  | _ :: _, [], _, _ => by simp [sameN]
theorem sharedN_fresh {n : Nat} {c d : Cv} (h : ∀ p ∈ c.ps, n ≤ p) (k : ∀ q ∈ d.ps, q < n) : sharedN c d = 0 := by
  unfold sharedN
  split
  · exact sameN_fresh h k
  · rfl
/-- a dot that is on the canvas is seen there -/
theorem catV_dot {c : Cv} {d : Dot} {Ts : List (List Col)} (hT : c.Ts = dotT c.w c.h Ts d) (h64 : ∀ T ∈ Ts, T.length = 64) (hn : Ts.length = c.w * c.h) : (catV c d.1 d.2.1).2 = true → (catV c d.1 d.2.1).1 = d.2.2 := by
  intro h
  by_cases hb : onB c.w c.h d.1 d.2.1 = true
  · obtain ⟨a, b, ha, hb', e1, e2⟩ := onB_nat hb
    have hn' := tileN_lt ha hb'
    have hTs : Ts[tileN c.w a b]? = some (Ts[tileN c.w a b]'(by omega)) := List.getElem?_eq_getElem (by omega)
    generalize Ts[tileN c.w a b]'(by omega) = T at hTs
    have lT := h64 T (List.mem_of_getElem? hTs)
    have e3 : c.Ts[tileN c.w a b]? = some (T.set (b % 8 * 8 + a % 8) d.2.2) := by
      rw [hT]
      unfold dotT
      rw [if_pos hb, e1, e2]
      simp only [Int.toNat_natCast]
      rw [List.getElem?_modify, hTs]
      simp
    rw [e1, e2, catV_yes ha hb' e3]
    show atT (T.set (b % 8 * 8 + a % 8) d.2.2) (b % 8 * 8 + a % 8) = d.2.2
    unfold atT
    rw [List.getD_eq_getElem?_getD, List.getElem?_set_self (by rw [lT]; omega)]
    rfl
  · rw [catV_no (by simpa using hb)] at h
    cases h
theorem dotRow_1 {W : World} {n : Nat} {d : Dot} (h : Has W n (.cells (dotC d) 81 (0, 0))) (hd : WdD d) : DotRow W (some ⟨n, 0, none⟩) [d] := by
  refine ⟨by simp [maxLen], fun i c hi => ?_, fun c hc => ?_⟩
  · match i, hi with
    | 0, hi => cases hi; exact ⟨_, rfl, h.cell 0, h.cell 1, h.cell 2, h.cell 3, h.cell 4, h.cell 5⟩
    | i + 1, hi => simp at hi
  · rw [List.mem_singleton.1 hc]; exact hd
set_option maxRecDepth 100000 in
set_option maxHeartbeats 4000000 in
theorem cback_law (x y : Int) (ad : Option Addr) (cap : Nat) (l : List (List Col)) (bd : Option Addr) (bcap : Nat) (ds : List Dot) (w : World) (h : TilRow w ad l) (hn : ad = none → cap = 0) (hc : l.length ≤ cap) (hcm : cap ≤ maxLen)
    (g : DotRow w bd ds) (gn : bd = none → bcap = 0) (gc : ds.length ≤ bcap) (gcm : bcap ≤ maxLen) :
    Calls Try.prog 13 #[.agg #[.int .i64 x, .int .i64 y, .slice ad l.length cap], .slice bd ds.length bcap] w fun e w' => e = .returned (.bool true) ∧ Since w w' := by
  have A := Lib.hid (And.intro h (And.intro hn (And.intro hc (And.intro hcm (And.intro g (And.intro gn (And.intro gc gcm)))))))
  have n1 := h.len
  have n2 := g.len
  clear h hn hc hcm g gn gc gcm
  obtain ⟨m, hm⟩ : ∃ m, l.length = m := ⟨_, rfl⟩
  obtain ⟨n, hnn⟩ : ∃ n, ds.length = n := ⟨_, rfl⟩
  rw [hm] at n1
  rw [hnn] at n2
  rw [hm, hnn]
  have HM := Lib.hid (And.intro hm hnn)
  clear hm hnn
  go_enter Try.func13, Try.ntmps13
  go_wp2_with (fail)
  refine (wakes5_any _).mono ?_
  rintro e w1 ⟨rfl, b1⟩
  have s1 : Since w w1 := ((Since.refl w).alloc _).trans b1
  have x0 : Has w1 w.heap.size (.cells #[.int .i64 x, .int .i64 y, .slice ad m cap] 63 (0, 0)) := (Has.new _ _).since b1
  have y0 := x0.three
  have H1 := Lib.hid (And.intro s1 x0)
  clear s1 x0 b1
  go_wp2_with (fail)
  have ho := own_any x y ad cap l w1 (A.out.1.since H1.out.1) A.out.2.1 A.out.2.2.1 A.out.2.2.2.1
  rw [HM.out.1] at ho
  refine ho.mono ?_
  rintro e w2 ⟨a2, cap2, rfl, r2, _, _, s2⟩
  clear ho y0
  generalize l.take 17 = L at *
  obtain ⟨q, hq⟩ : ∃ q, L.length = q := ⟨_, rfl⟩
  rw [hq]
  have H2 := Lib.hid (And.intro hq (And.intro r2 (H1.out.1.trans s2)))
  have nq := r2.len
  rw [hq] at nq
  clear hq r2 s2
  cases hR : rightB x y q with
  | false =>
    have HR := Lib.hid hR
    clear hR
    go_wp2_with (fail)
    refine (cof_no x y a2 q cap2 w2 nq HR.out).mono ?_
    rintro e w3 ⟨rfl, b3⟩
    have H3 := Lib.hid (H2.out.2.2.trans b3)
    clear b3
    go_wp2
    go_ret
    exact ⟨rfl, H3.out⟩
  | true =>
    have HR := Lib.hid hR
    clear hR
    go_wp2_with (fail)
    have hof := cof_yes x y a2 cap2 L w2 H2.out.2.1 (by rw [H2.out.1]; exact HR.out)
    rw [H2.out.1] at hof
    refine hof.mono ?_
    rintro e w3 ⟨p, c, rfl, hc, cx, cy, cT, _, _, b3⟩
    have H3 := Lib.hid (And.intro hc (And.intro cx (And.intro cy (And.intro cT (H2.out.2.2.trans b3)))))
    clear hof hc cx cy cT b3
    go_wp2_with (fail)
    refine (show_any p c w3 H3.out.1).mono ?_
    rintro e w4 ⟨ad4, cap4, rfl, r4, _, _, _, b4⟩
    obtain ⟨k, hk⟩ : ∃ k, c.Ts.length = k := ⟨_, rfl⟩
    rw [hk]
    have ok := H3.out.1.ok
    have H4 := Lib.hid (And.intro hk (And.intro r4 (And.intro (H3.out.1.since b4) (And.intro (H3.out.2.2.2.2.trans b4) ok))))
    clear hk r4 b4 ok
    go_wp2_with (fail)
    have hright : rightB c.w c.h c.Ts.length = true := by
      rw [H4.out.2.2.2.2.nt]
      have := H4.out.2.2.2.2
      unfold rightB
      have h1 := this.w1; have h2 := this.w4; have h3 := this.h1; have h4 := this.h4
      rw [mayB_iff.2 (by omega)]
      simp
    have hof := cof_yes c.w c.h ad4 cap4 c.Ts w4 H4.out.2.1 hright
    rw [H4.out.1] at hof
    refine hof.mono ?_
    rintro e w5 ⟨p2, c2, rfl, hc2, c2w, c2h, c2T, c2f, _, b5⟩
    have H5 := Lib.hid (And.intro hc2 (And.intro (show c2.w = c.w by omega) (And.intro (show c2.h = c.h by omega) (And.intro c2T (And.intro c2f (And.intro (H4.out.2.2.1.since b5) (H4.out.2.2.2.1.trans b5)))))))
    clear hof hc2 c2w c2h c2T c2f b5 hright
    go_wp2_with (fail)
    refine (csame_any p2 p c2 c w5 H5.out.1 H5.out.2.2.2.2.2.1).mono ?_
    rintro e w6 ⟨rfl, b6⟩
    rw [csame_self H5.out.2.1 H5.out.2.2.1 H5.out.2.2.2.1]
    have H6 := Lib.hid (And.intro (H5.out.1.since b6) (And.intro (H5.out.2.2.2.2.2.1.since b6) (H5.out.2.2.2.2.2.2.trans b6)))
    clear b6
    go_wp2_with (fail)
    refine (csame_any p p2 c c2 w6 H6.out.2.1 H6.out.1).mono ?_
    rintro e w7 ⟨rfl, b7⟩
    rw [csame_self H5.out.2.1.symm H5.out.2.2.1.symm H5.out.2.2.2.1.symm]
    have H7 := Lib.hid (And.intro (H6.out.1.since b7) (And.intro (H6.out.2.1.since b7) (H6.out.2.2.trans b7)))
    clear b7
    go_wp2_with (fail)
    refine (shared_any p2 p c2 c w7 H7.out.1 H7.out.2.1).mono ?_
    rintro e w8 ⟨rfl, b8⟩
    have hz : sharedN c2 c = 0 := by
      obtain ⟨g, cp, kk⟩ := H4.out.2.2.1
      exact sharedN_fresh H5.out.2.2.2.2.1 kk.low.2.2
    rw [hz]
    have H8 := Lib.hid (And.intro (H7.out.2.1.since b8) (H7.out.2.2.trans b8))
    clear b8 hz
    go_wp2_with (fail)
    refine (show_any p c w8 H8.out.1).mono ?_
    rintro e w9 ⟨ad9, cap9, rfl, r9, _, _, _, b9⟩
    rw [H4.out.1]
    obtain ⟨X1, hX1⟩ : ∃ X : Int, (c.w : Int) = X := ⟨_, rfl⟩
    obtain ⟨X2, hX2⟩ : ∃ X : Int, (c.h : Int) = X := ⟨_, rfl⟩
    rw [hX1, hX2]
    have HX := Lib.hid (And.intro hX1 hX2)
    have H9 := Lib.hid (And.intro (H8.out.1.since b9) (And.intro (H8.out.2.trans b9) r9))
    clear b9 hX1 hX2 r9
    go_wp2_with (fail)
    generalize hW : World.alloc _ _ = W
    have y9 : Has W w9.heap.size (.cells #[.int .i64 X1, .int .i64 X2, .slice ad9 k cap9] 63 (0, 0)) := by rw [← hW]; exact Has.new _ _
    have s9 : Since w9 W := by rw [← hW]; exact (Since.refl _).alloc _
    clear hW
    have hf := few_any bd bcap ds W (A.out.2.2.2.2.1.since (H9.out.2.1.trans s9)) A.out.2.2.2.2.2.1 A.out.2.2.2.2.2.2.1 A.out.2.2.2.2.2.2.2
    rw [HM.out.2] at hf
    refine hf.mono ?_
    rintro e w10 ⟨a10, cap10, rfl, r10, _, _, _, s10⟩
    obtain ⟨D, hD⟩ : ∃ D, ds.take 30 = D := ⟨_, rfl⟩
    rw [hD] at r10 ⊢
    obtain ⟨t, ht⟩ : ∃ t, D.length = t := ⟨_, rfl⟩
    have t30 : t ≤ 30 := by rw [← ht, ← hD, List.length_take]; omega
    rw [ht]
    have H10 := Lib.hid (And.intro (H9.out.1.since (s9.trans s10)) (And.intro ((H9.out.2.1.trans s9).trans s10) (And.intro (y9.since s10) (And.intro (H9.out.2.2.since (s9.trans s10)) (And.intro r10 (And.intro hD ht))))))
    have hdby : ∀ d ∈ D, WdD d := r10.by_
    have DB := Lib.hid hdby
    clear hf y9 s9 s10 r10 hD ht hdby
    go_wp2
    go_loopg [9, 59] t (fun n v i wr => ∃ (j pj : Nat) (cj : Cv), j ≤ t ∧ n = t - j ∧ v = ptrV pj ∧ i = .int .i64 j ∧ CvAt wr pj cj ∧ cj.w = c.w ∧ cj.h = c.h ∧ cj.Ts = dotsT c.w c.h c.Ts (D.take j) ∧ Since w10 wr)
    case atStart => exact ⟨0, p, c, by omega, by omega, rfl, rfl, H10.out.1, rfl, rfl, rfl, Since.refl _⟩
    case round =>
      obtain ⟨j, pj, cj, hj, hnn, rfl, rfl, hcj, cw, ch, cTs, sj⟩ := hrel
      have R := Lib.hid (And.intro hnn (And.intro hcj (And.intro cw (And.intro ch (And.intro cTs sj)))))
      clear hnn hcj cw ch cTs sj
      by_cases hlt : j < t
      · obtain ⟨⟨dx, dy, d0, d1, d2, d3⟩, hd⟩ : ∃ d, D[j]? = some d := ⟨_, List.getElem?_eq_getElem (by rw [H10.out.2.2.2.2.2.2]; exact hlt)⟩
        obtain ⟨a, rfl, hda⟩ := (H10.out.2.2.2.2.1.since R.out.2.2.2.2.2).at_ j _ hd
        have HD := Lib.hid (And.intro hd (And.intro hda (DB.out _ (List.mem_of_getElem? hd))))
        have q0 := hda
        unfold DotAt at q0
        clear hd hda
        go_wp2_with (fail)
        have hn : Has ((wr.alloc (.cells #[.int .i64 dx, .int .i64 dy, .int .u8 d0, .int .u8 d1, .int .u8 d2, .int .u8 d3] 81)).alloc (.cells #[.int .i64 dx, .int .i64 dy, .int .u8 d0, .int .u8 d1, .int .u8 d2, .int .u8 d3] 81)) wr.heap.size (.cells (dotC (dx, dy, d0, d1, d2, d3)) 81 (0, 0)) := (Has.new _ _).alloc _
        have hn2 : Has ((wr.alloc (.cells #[.int .i64 dx, .int .i64 dy, .int .u8 d0, .int .u8 d1, .int .u8 d2, .int .u8 d3] 81)).alloc (.cells #[.int .i64 dx, .int .i64 dy, .int .u8 d0, .int .u8 d1, .int .u8 d2, .int .u8 d3] 81)) (wr.heap.size + 1) (.cells (dotC (dx, dy, d0, d1, d2, d3)) 81 (0, 0)) := Has.new' (by simp)
        have sn : Since wr ((wr.alloc (.cells #[.int .i64 dx, .int .i64 dy, .int .u8 d0, .int .u8 d1, .int .u8 d2, .int .u8 d3] 81)).alloc (.cells #[.int .i64 dx, .int .i64 dy, .int .u8 d0, .int .u8 d1, .int .u8 d2, .int .u8 d3] 81)) := ((Since.refl _).alloc _).alloc _
        generalize World.alloc (World.alloc _ _) _ = U at *
        refine (cwith_any pj cj (some ⟨wr.heap.size + 1, 0, none⟩) 1 [(dx, dy, d0, d1, d2, d3)] U (R.out.2.1.since sn) (dotRow_1 hn2 HD.out.2.2)).mono ?_
        rintro e u1 ⟨pj', cn, rfl, hcn, nw, nh, nT, _, _, b1⟩
        have s1 : Since U u1 := b1
        have y1 := (hn.since s1).six
        have l1 := (hn.since s1).lt
        have G1 := Lib.hid (And.intro hcn (And.intro nw (And.intro nh (And.intro nT (And.intro (hn.since s1) (sn.trans s1))))))
        clear hcn nw nh nT b1 s1 hn hn2 sn q0
        go_wp2_with (fail)
        refine (cat_any pj' cn dx dy u1 G1.out.1).mono ?_
        rintro e u2 ⟨rfl, b2⟩
        have hdot := catV_dot (c := cn) (d := (dx, dy, d0, d1, d2, d3)) (Ts := cj.Ts) (by rw [G1.out.2.2.2.1, G1.out.2.1, G1.out.2.2.1]; rfl) R.out.2.1.ok.l64 (by rw [G1.out.2.1, G1.out.2.2.1]; exact R.out.2.1.ok.nt)
        obtain ⟨⟨⟨c0, c1, c2, c3⟩, on⟩, hr⟩ : ∃ r, catV cn dx dy = r := ⟨_, rfl⟩
        simp only [hr] at hdot
        rw [hr]
        have y2 := (G1.out.2.2.2.2.1.since b2).six
        have l2 := (G1.out.2.2.2.2.1.since b2).lt
        have G2 := Lib.hid (And.intro (G1.out.1.since b2) (And.intro (G1.out.2.2.2.2.2.trans b2) hdot))
        clear b2 hdot y1 l1
        cases on with
        | false =>
          go_wp2
          go_roundg (t - (j + 1))
          case measure => have := R.out.1; omega
          case rel => exact ⟨j + 1, pj', cn, by omega, rfl, rfl, by go_num, G2.out.1.since ((Since.refl u2).alloc _), G1.out.2.1.trans R.out.2.2.1, G1.out.2.2.1.trans R.out.2.2.2.1, by rw [G1.out.2.2.2.1, R.out.2.2.1, R.out.2.2.2.1, R.out.2.2.2.2.1, ← take_snoc HD.out.1, dotsT_snoc]; rfl, (R.out.2.2.2.2.2.trans G2.out.2.1).alloc _⟩
        | true =>
          have e4 := G2.out.2.2 rfl
          simp only [Prod.mk.injEq] at e4
          obtain ⟨rfl, rfl, rfl, rfl⟩ := e4
          go_wp2
          go_roundg (t - (j + 1))
          case measure => have := R.out.1; omega
          case rel => exact ⟨j + 1, pj', cn, by omega, rfl, rfl, by go_num, G2.out.1.since ((Since.refl u2).alloc _), G1.out.2.1.trans R.out.2.2.1, G1.out.2.2.1.trans R.out.2.2.2.1, by rw [G1.out.2.2.2.1, R.out.2.2.1, R.out.2.2.2.1, R.out.2.2.2.2.1, ← take_snoc HD.out.1, dotsT_snoc]; rfl, (R.out.2.2.2.2.2.trans G2.out.2.1).alloc _⟩
      · have e : j = t := by omega
        subst e
        go_wp2
        have sW := H10.out.2.1.trans R.out.2.2.2.2.2
        have Sr := Lib.hid (Since.refl wr).drew
        have r10 := Lib.hid R.out.2.2.2.2.2
        refine wp_region_sched [(0, false), (2, false), (1, true), (3, true), (4, false), (5, false), (6, false), (7, false), (8, true), (9, true), (10, true), (11, false), (12, false)] (Since wr) (by kernel_rfl) (by kernel_rfl) Sr.out ?_
        repeat (refine sched_pure (v := ?_) rfl rfl ?_ ?_; rotate_left; (focus (intro Y hY; have y0 := (H10.out.2.2.1.since (r10.out.trans hY)).three; go_simp; try with_reducible rfl)); go_simp; try go_bits)
        refine sched_act rfl rfl ?_
        go_simp
        refine (show_any p c _ (H10.out.1.since (r10.out.trans Sr.out))).mono ?_
        rintro e v1 ⟨aS, capS, rfl, rS, _, _, _, b1⟩
        rw [H4.out.1, HX.out.1, HX.out.2]
        have V1 := Lib.hid (And.intro (Sr.out.trans b1) rS)
        clear b1 rS
        refine ⟨V1.out.1, ?_⟩
        repeat (refine sched_pure (v := ?_) rfl rfl ?_ ?_; rotate_left; (focus (intro Y hY; have y0 := (H10.out.2.2.1.since (r10.out.trans hY)).three; go_simp; try with_reducible rfl)); go_simp; try go_bits)
        refine sched_act rfl rfl ?_
        go_simp
        have hal := alike_any X1 X2 X1 X2 aS ad9 capS cap9 c.Ts c.Ts v1 V1.out.2 (H10.out.2.2.2.1.since (r10.out.trans V1.out.1))
        rw [H4.out.1] at hal
        refine hal.mono ?_
        rintro e v2 ⟨rfl, b2⟩
        rw [show alikeB X1 X2 X1 X2 c.Ts c.Ts = true from decide_eq_true ⟨rfl, rfl, rfl⟩]
        have V2 := Lib.hid (V1.out.1.trans b2)
        clear hal b2
        refine ⟨V2.out, ?_⟩
        repeat (refine sched_pure (v := ?_) rfl rfl ?_ ?_; rotate_left; (focus (intro Y hY; go_simp; try with_reducible rfl)); go_simp; try go_bits)
        refine sched_act rfl rfl ?_
        go_simp
        have hf := few_any bd bcap ds v2 (A.out.2.2.2.2.1.since (sW.trans V2.out)) A.out.2.2.2.2.2.1 A.out.2.2.2.2.2.2.1 A.out.2.2.2.2.2.2.2
        rw [HM.out.2] at hf
        refine hf.mono ?_
        rintro e v3 ⟨aF, capF, rfl, rF, _, _, _, b3⟩
        rw [H10.out.2.2.2.2.2.1] at rF
        rw [H10.out.2.2.2.2.2.1, H10.out.2.2.2.2.2.2]
        have V3 := Lib.hid (And.intro (V2.out.trans b3) rF)
        clear hf b3 rF
        refine ⟨V3.out.1, ?_⟩
        repeat (refine sched_pure (v := ?_) rfl rfl ?_ ?_; rotate_left; (focus (intro Y hY; go_simp; try with_reducible rfl)); go_simp; try go_bits)
        refine sched_act rfl rfl ?_
        go_simp
        have hw := cwith_any p c aF capF D v3 (H10.out.1.since (r10.out.trans V3.out.1)) V3.out.2
        rw [H10.out.2.2.2.2.2.2] at hw
        refine hw.mono ?_
        rintro e v4 ⟨pe, ce, rfl, hce, ew, eh, eT, _, _, b4⟩
        have V4 := Lib.hid (And.intro (V3.out.1.trans b4) (And.intro hce (And.intro ew (And.intro eh eT))))
        clear hw b4 hce ew eh eT
        refine ⟨V4.out.1, ?_⟩
        repeat (refine sched_pure (v := ?_) rfl rfl ?_ ?_; rotate_left; (focus (intro Y hY; go_simp; try with_reducible rfl)); go_simp; try go_bits)
        refine sched_act rfl rfl ?_
        go_simp
        have eD : cj.Ts = dotsT c.w c.h c.Ts D := by rw [R.out.2.2.2.2.1, List.take_of_length_le (by rw [H10.out.2.2.2.2.2.2]; exact Nat.le_refl _)]
        refine (csame_any pj pe cj ce v4 (R.out.2.1.since V4.out.1) V4.out.2.1).mono ?_
        rintro e v5 ⟨rfl, b5⟩
        rw [csame_self (R.out.2.2.1.trans V4.out.2.2.1.symm) (R.out.2.2.2.1.trans V4.out.2.2.2.1.symm) (eD.trans V4.out.2.2.2.2.symm)]
        have V5 := Lib.hid (V4.out.1.trans b5)
        clear b5
        refine ⟨V5.out, ?_⟩
        repeat (refine sched_pure (v := ?_) rfl rfl ?_ ?_; rotate_left; (focus (intro Y hY; go_simp; try with_reducible rfl)); go_simp; try go_bits)
        refine sched_end ?_
        go_wp2
        go_ret
        exact ⟨rfl, sW.trans V5.out⟩
end Go.Proofs.Ytedckelfdkfkoaa
