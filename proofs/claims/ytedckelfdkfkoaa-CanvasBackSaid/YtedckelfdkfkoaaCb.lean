/- Walks: a pixel of a canvas. -/
import Derived.Test.YtedckelfdkfkoaaCa
import Derived.Test.YtedckelfdkfkoaaG
import Derived.Deep.DrawnRows
namespace Go.Proofs.Ytedckelfdkfkoaa
open Go.RowKit Go.Shelf
attribute [local go_sem] Oper.semAt_some
attribute [local go_sem 2000] run_col run_tile
attribute [local go_sem ↓] Go.wp_at_zero Go.wp_at_succ
attribute [local go_sem ↓] zero25 build25 build176z build176 load25 store25
attribute [local go_sem] rowAt_alloc rowFree_alloc rowAt_drew rowFree_drew zeroA_size zc176 zeroA_ones blkOf_ptr aggOf_agg

/-- a pixel of a canvas, and is there one? -/
def catV (c : Cv) (x y : Int) : Col × Bool := if onB c.w c.h x y = true then (atT (c.Ts.getD (tileN c.w x.toNat y.toNat) []) (y.toNat % 8 * 8 + x.toNat % 8), true) else (z0, false)
abbrev catR (r : Col × Bool) : Value := .tuple #[colV r.1, .bool r.2]
theorem catV_no {c : Cv} {x y : Int} (h : onB c.w c.h x y = false) : catV c x y = (z0, false) := by unfold catV; rw [h]; rfl
theorem catV_yes {c : Cv} {a b : Nat} (ha : a < 8 * c.w) (hb : b < 8 * c.h) {T : List Col} (hT : c.Ts[tileN c.w a b]? = some T) : catV c a b = (atT T (b % 8 * 8 + a % 8), true) := by
  unfold catV
  rw [if_pos (onB_iff.2 (by omega))]
  simp only [Int.toNat_natCast]
  rw [List.getD_eq_getElem?_getD, hT]; rfl

theorem size23 : (Try.prog.info? 23).map (·.size) = some 4 := by kernel_rfl
/-- two results, the first a colour in a block -/
theorem res23i {fn : Func} {p q : Tmp} (h : fn.results = #[.cell p 23, .tmp q]) (tmps : Array Value) (w : World) (g : Nat) (T : TypeId) (c : Col) (z : Nat × Nat) (v : Value) (hp : tmps.getD p undef = .pointer (some ⟨g, 0, none⟩)) (hq : tmps.getD q undef = v) (hg : Has w g (.cells (colC c) T z)) :
    (results fn tmps).run Try.prog w = .ok (.tuple #[colV c, v]) w := by
  have hp' : tmps[p]?.getD undef = .pointer (some ⟨g, 0, none⟩) := by simpa using hp
  have hq' : tmps[q]?.getD undef = v := by simpa using hq
  have hl : (loadVar 23 ⟨g, 0, none⟩).run Try.prog w = .ok (colV c) w := run_loadVar_row w g T 23 (colC c) z _ hg Try.underlying23 rfl (by rw [size23]; rfl)
  simp [results, h, hp', hq', asAddr, hl]

set_option maxRecDepth 100000 in
set_option maxHeartbeats 1000000 in
theorem cat_nil (x y : Int) (w : World) : Calls Try.prog 60 #[.pointer none, .int .i64 x, .int .i64 y] w fun e w' => e = .returned (catR (z0, false)) ∧ Below w.heap.size w w' := by
  go_enter Try.func60, Try.ntmps60
  go_wp2
  refine bodyPost_ret (v := catR (z0, false)) (by simp [results, Try.results60, go_sem, z0]) rfl ⟨rfl, ?_⟩
  repeat (first | exact Below.refl _ _ | refine Below.alloc ?_ (by simp <;> omega) _ | refine Below.setCell ?_ (by simp <;> omega) _)

set_option maxRecDepth 100000 in
set_option maxHeartbeats 2000000 in
theorem cat_any (b : Nat) (c : Cv) (x y : Int) (w : World) (hc : CvAt w b c) : Calls Try.prog 60 #[ptrV b, .int .i64 x, .int .i64 y] w fun e w' => e = .returned (catR (catV c x y)) ∧ Below w.heap.size w w' := by
  obtain ⟨g, cap, k⟩ := hc
  have wl4 := k.ok.w4
  have h4 := k.ok.h4
  have q := k.rec_.three
  cases hB : onB c.w c.h x y with
  | false =>
    rw [catV_no hB]
    have HB := Lib.hid hB
    have lb := k.rec_.lt
    clear k hB
    go_enter Try.func60, Try.ntmps60
    go_wp2_with (fail)
    refine (place_no c.w c.h x y _ wl4 h4 HB.out).mono ?_
    rintro e w1 ⟨rfl, b1⟩
    have o1 := ((Has.new w (.cells (colC (0, 0, 0, 0)) 23 (0, 0))).below b1 (Has.new _ _).lt)
    have c1 := o1.four
    have f1 := o1.free4
    have l1 := o1.lt
    have S1 := Lib.hid (And.intro (((Since.refl w).alloc _).step b1) o1)
    clear o1 b1 q
    go_wp2
    refine bodyPost_ret (v := catR (z0, false)) (res23i Try.results60 _ _ w.heap.size 23 z0 (0, 0) _ rfl rfl ((S1.out.2.put4 _ _ _ _).alloc _)) rfl ⟨rfl, ?_⟩
    exact ((((S1.out.1.setCell _ (by simp)).setCell _ (by simp)).setCell _ (by simp)).setCell _ (by simp)).alloc _
  | true =>
    obtain ⟨a, b', ha, hb, rfl, rfl⟩ := onB_nat hB
    have hn := tileN_lt ha hb
    obtain ⟨p, T, hp, hT, hcell, hrow, lT, bT⟩ := k.tile hn
    rw [catV_yes ha hb hT]
    have K := Lib.hid (And.intro k (And.intro hcell hrow))
    have lb := k.rec_.lt
    have hs : (tileA T).size = 256 := by rw [tileA_size, lT]
    have hnp : tileN c.w a b' < c.ps.length := by rw [k.ok.np]; exact hn
    obtain ⟨n, hn'⟩ : ∃ n, tileN c.w a b' = n := ⟨_, rfl⟩
    rw [hn'] at hcell hn hnp
    have HN := Lib.hid hn'
    obtain ⟨m, hm⟩ : ∃ m, c.ps.length = m := ⟨_, rfl⟩
    rw [hm] at q hnp
    have HM := Lib.hid hm
    clear k hB hp hT hrow hn' hm hcell
    go_enter Try.func60, Try.ntmps60
    go_wp2_with (fail)
    refine (place_yes c.w c.h a b' _ wl4 h4 ha hb).mono ?_
    rintro e w1 ⟨rfl, b1⟩
    obtain ⟨u, hu⟩ : ∃ u, a % 8 = u := ⟨_, rfl⟩
    obtain ⟨v, hv⟩ : ∃ v, b' % 8 = v := ⟨_, rfl⟩
    have u8 : u < 8 := by omega
    have v8 : v < 8 := by omega
    rw [HN.out, hu, hv]
    have UV := Lib.hid (And.intro hu hv)
    clear hu hv
    have s1 : Since w w1 := ((Since.refl w).alloc _).step b1
    have o1 := ((Has.new w (.cells (colC (0, 0, 0, 0)) 23 (0, 0))).below b1 (Has.new _ _).lt)
    have l1 := o1.lt
    have S1 := Lib.hid (And.intro s1 o1)
    clear b1 s1 o1 q
    go_wp2
    have pt := Has.new w1 (.cells #[.int .i64 (u : Int), .int .i64 (v : Int)] 43 (0, 0))
    generalize hX : World.alloc _ _ = X at pt ⊢
    have kX : Since w X := by rw [← hX]; exact S1.out.1.alloc _
    have oX : Has X w.heap.size (.cells (colC (0, 0, 0, 0)) 23 (0, 0)) := by rw [← hX]; exact S1.out.2.alloc _
    have R0 := Lib.hid (K.out.2.2.since kX).rowS
    have HX := Lib.hid (And.intro kX (And.intro oX pt))
    have szX : X.heap.size = w1.heap.size + 1 := by rw [← hX]; simp
    have SZ := Lib.hid szX
    clear hX kX oX pt szX
    refine wp_region_tree (.pure 0 (.pure 1 (.pure 2 (.pure 3 (.pure 4 (.pure 5 (.pure 6 (.pure 7 (.pure 8 (.pure 9 (.pure 10 (.pure 11 (.pure 12 (.two 13 (.pure 14 (.pure 15 (.pure 16 (.act 17 (.act 18 (.pure 19 .done)))))) 17 (.act 13 (.pure 14 (.pure 15 (.pure 16 (.act 18 (.pure 19 .done)))))))))))))))))))) (Since X) (by kernel_rfl) (by kernel_rfl) (by kernel_rfl) (Since.refl X).drew ?_
    repeat (refine tree_pure (v := ?_) rfl rfl ?_ ?_; rotate_left; (focus (intro Y hY; first | (refine (exec_tile (R0.out Y hY) hs rfl).trans ?_; with_reducible rfl) | (have y0 := (K.out.1.rec_.since (HX.out.1.trans hY)).three; have y1 := cell_since K.out.2.1 (HX.out.1.trans hY); rw [HN.out] at y1; rw [HM.out] at y0; have y2 := (HX.out.2.2.since hY).two; go_simp; try with_reducible rfl))); go_simp; try go_bits)
    refine tree_two rfl rfl rfl rfl ?_ ?_
    · go_simp
      refine (at_any T u v _ lT).mono ?_
      rintro e w2 ⟨rfl, b2⟩
      rw [atV_yes u8 v8]
      obtain ⟨d, hd⟩ : ∃ d, atT T (v * 8 + u) = d := ⟨_, rfl⟩
      rw [hd]
      have HD := Lib.hid hd
      have s2 : Since X w2 := (Since.refl X).drew.step b2
      refine ⟨s2, ?_⟩
      have l2 := (HX.out.2.1.since s2).lt
      have S2 := Lib.hid s2
      clear hd b2 s2
      obtain ⟨d0, d1, d2, d3⟩ := d
      repeat (refine tree_pure (v := ?_) rfl rfl ?_ ?_; rotate_left; (focus (intro Y hY; go_simp; try with_reducible rfl)); go_simp; try go_bits)
      refine tree_act rfl rfl ?_
      go_simp
      refine ⟨S2.out.alloc _, ?_⟩
      refine tree_act rfl rfl ?_
      go_simp
      refine ⟨S2.out.alloc _, ?_⟩
      repeat (refine tree_pure (v := ?_) rfl rfl ?_ ?_; rotate_left; (focus (intro Y hY; go_simp; try with_reducible rfl)); go_simp; try go_bits)
      refine tree_end ?_
      have o2 := HX.out.2.1.since S2.out
      have c2 := o2.four
      have f2 := o2.free4
      clear o2
      go_wp2
      refine bodyPost_ret (v := catR ((d0, d1, d2, d3), true)) (res23i Try.results60 _ _ w.heap.size 23 (d0, d1, d2, d3) (0, 0) _ rfl rfl (((HX.out.2.1.since S2.out).put4 _ _ _ _).alloc _)) rfl ⟨?_, ?_⟩
      · rw [UV.out.1, UV.out.2, HD.out]
      · exact (((((HX.out.1.trans S2.out).setCell _ (by simp)).setCell _ (by simp)).setCell _ (by simp)).setCell _ (by simp)).alloc _
    · go_simp
      refine ⟨((Since.refl X).alloc _).drew, ?_⟩
      refine tree_act rfl rfl ?_
      go_simp
      refine (at_any T u v _ lT).mono ?_
      rintro e w2 ⟨rfl, b2⟩
      rw [atV_yes u8 v8]
      obtain ⟨d, hd⟩ : ∃ d, atT T (v * 8 + u) = d := ⟨_, rfl⟩
      rw [hd]
      have HD := Lib.hid hd
      have s2 : Since X w2 := ((Since.refl X).alloc (.cells (colC (0, 0, 0, 0)) 23)).drew.step b2
      have t2 := (Has.new X (.cells (colC (0, 0, 0, 0)) 23 (0, 0))).drew.below b2 (Has.new _ _).lt
      refine ⟨s2, ?_⟩
      have ct := t2.four
      have ft := t2.free4
      have lt := t2.lt
      have S2 := Lib.hid (And.intro s2 t2)
      clear hd b2 s2 t2
      obtain ⟨d0, d1, d2, d3⟩ := d
      repeat (refine tree_pure (v := ?_) rfl rfl ?_ ?_; rotate_left; (focus (intro Y hY; go_simp; try with_reducible rfl)); go_simp; try go_bits)
      refine tree_act rfl rfl ?_
      go_simp
      refine ⟨((((S2.out.1.setCell _ (by simp)).setCell _ (by simp)).setCell _ (by simp)).setCell _ (by simp)), ?_⟩
      clear ct ft
      have t3 := S2.out.2.put4 (.int .u8 d0) (.int .u8 d1) (.int .u8 d2) (.int .u8 d3)
      have s3 : Since X (w4 w2 X.heap.size (.int .u8 d0) (.int .u8 d1) (.int .u8 d2) (.int .u8 d3)) := ((((S2.out.1.setCell _ (by simp)).setCell _ (by simp)).setCell _ (by simp)).setCell _ (by simp))
      dsimp only [w4] at t3 s3
      generalize hZ : World.setCell (World.setCell (World.setCell (World.setCell w2 _ _) _ _) _ _) _ _ = Z at t3 s3 ⊢
      clear hZ S2
      repeat (refine tree_pure (v := ?_) rfl rfl ?_ ?_; rotate_left; (focus (intro Y hY; go_simp; try with_reducible rfl)); go_simp; try go_bits)
      refine tree_end ?_
      have o2 := HX.out.2.1.since s3
      have c2 := o2.four
      have f2 := o2.free4
      have l3 := o2.lt
      have c3 := t3.four
      have S3 := Lib.hid (And.intro s3 o2)
      clear o2 s3 t3
      go_wp2
      refine bodyPost_ret (v := catR ((d0, d1, d2, d3), true)) (res23i Try.results60 _ _ w.heap.size 23 (d0, d1, d2, d3) (0, 0) _ rfl rfl (S3.out.2.put4 _ _ _ _)) rfl ⟨?_, ?_⟩
      · rw [UV.out.1, UV.out.2, HD.out]
      · exact (((((HX.out.1.trans S3.out.1).setCell _ (by simp)).setCell _ (by simp)).setCell _ (by simp)).setCell _ (by simp))
end Go.Proofs.Ytedckelfdkfkoaa
