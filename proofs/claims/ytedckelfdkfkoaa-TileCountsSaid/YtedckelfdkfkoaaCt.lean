/- The law TileCounts: colours, runs, counts, the least box. -/
import Derived.Test.YtedckelfdkfkoaaO
import Derived.Test.YtedckelfdkfkoaaWk
import Derived.Test.YtedckelfdkfkoaaAp
import Derived.Test.YtedckelfdkfkoaaR2
import Derived.Test.YtedckelfdkfkoaaBx
namespace Go.Proofs.Ytedckelfdkfkoaa
open Go.RowKit Go.Shelf
attribute [local go_sem] Oper.semAt_some
attribute [local go_sem 2000] run_col run_tile
attribute [local go_sem] colB_self
attribute [local go_sem ↓] Go.wp_at_zero Go.wp_at_succ
attribute [local go_sem ↓] zero25 build25 build176z build176 load25 store25 exec_min
attribute [local go_sem] rowAt_alloc rowFree_alloc rowAt_drew rowFree_drew rowAt_alloc_map zeroA_size zc176 zeroA_ones blkOf_ptr aggOf_agg

theorem ColRow.take {W : World} {ad : Option Addr} {l : List Col} (h : ColRow W ad l) (q : Nat) : ColRow W ad (l.take q) := by
  refine ⟨by have := h.len; rw [List.length_take]; omega, fun i c hi => ?_, fun c hc => h.by_ c (List.mem_of_mem_take hc)⟩
  rw [List.getElem?_take] at hi
  split at hi
  · exact h.at_ i c hi
  · cases hi
theorem colsV_app (l l' : List Col) : colsV (l ++ l') = colsV l ++ colsV l' := by simp [colsV]
theorem news_two (W : World) (c d : Col) (T : TypeId) : ∀ j u, (colsV [c, d])[j]? = some u → (W.alloc (.cells #[.int .u8 c.1, .int .u8 c.2.1, .int .u8 c.2.2.1, .int .u8 c.2.2.2, .int .u8 d.1, .int .u8 d.2.1, .int .u8 d.2.2.1, .int .u8 d.2.2.2] T)).cell? ((⟨W.heap.size, 0, none⟩ : Addr).add j) = some u := by
  intro j u hj
  have hc := Has.new W (.cells #[.int .u8 c.1, .int .u8 c.2.1, .int .u8 c.2.2.1, .int .u8 c.2.2.2, .int .u8 d.1, .int .u8 d.2.1, .int .u8 d.2.2.1, .int .u8 d.2.2.2] T)
  match j, hj with
  | 0, hj => cases hj; exact hc.cell 0
  | 1, hj => cases hj; exact hc.cell 1
  | 2, hj => cases hj; exact hc.cell 2
  | 3, hj => cases hj; exact hc.cell 3
  | 4, hj => cases hj; exact hc.cell 4
  | 5, hj => cases hj; exact hc.cell 5
  | 6, hj => cases hj; exact hc.cell 6
  | 7, hj => cases hj; exact hc.cell 7
  | j + 8, hj => simp [colsV] at hj

/-- what lies where in the law -/
def CtS (n : Nat) (T T' : List Col) (Y : World) : Prop := Has Y n (.cells (tileA T) 25 (0, 0)) ∧ Has Y (n + 1) (.cells (tileA T') 25 (0, 0))
theorem CtS.below {n : Nat} {T T' : List Col} {Y Y' : World} (h : CtS n T T' Y) (b : Below Y.heap.size Y Y') : CtS n T T' Y' := ⟨h.1.below b h.1.lt, h.2.below b h.2.lt⟩

def CtR (n q : Nat) (T T' : List Col) (c : Col) (Y : World) : Prop := CtS n T T' Y ∧ Has Y q (.cells (colC c) 23 (0, 0))
theorem CtR.below {n q : Nat} {T T' : List Col} {c : Col} {Y Y' : World} (h : CtR n q T T' c Y) (b : Below Y.heap.size Y Y') : CtR n q T T' c Y' := ⟨h.1.below b, h.2.below b h.2.lt⟩

set_option maxRecDepth 100000 in
set_option maxHeartbeats 4000000 in
theorem counts_law (T T' : List Col) (ad : Option Addr) (cap : Nat) (l : List Col) (w : World) (hT : T.length = 64) (hT' : T'.length = 64) (hb : ∀ c ∈ T, ByC c) (hb' : ∀ c ∈ T', ByC c) (hl : ColRow w ad l) (hcap : l.length ≤ cap) (hz : ad = none → cap = 0) :
    Calls Try.prog 3 #[.agg (tileA T), .agg (tileA T'), .slice ad l.length cap] w fun e w' => e = .returned (.bool true) ∧ Below w.heap.size w w' := by
  have n1 := hl.len
  unfold maxLen at n1
  generalize hm1 : l.length = m1 at *
  have hs : (tileA T).size = 256 := by rw [tileA_size, hT]
  have hs' : (tileA T').size = 256 := by rw [tileA_size, hT']
  have A0 := Lib.hid (And.intro hm1 (And.intro hl (And.intro hcap hz)))
  have HT := Lib.hid (And.intro hT (And.intro hT' (And.intro hb hb')))
  clear hm1 hl hcap hz hT hT' hb hb'
  go_enter Try.func3, Try.ntmps3
  go_wp2_with (go_at_call 24; refine (wakes4_any _).mono ?_; rintro e w1 ⟨rfl, hb1⟩)
  have x0 : CtS w.heap.size T T' w1 := CtS.below ⟨(Has.new w (.cells (tileA T) 25 (0, 0))).alloc (.cells (tileA T') 25 (0, 0)), Has.new' (by simp)⟩ hb1
  have b1 := ((((Below.refl w.heap.size w).alloc (by simp) (.cells (tileA T) 25)).alloc (by simp <;> omega) (.cells (tileA T') 25))).trans (hb1.mono (by simp; omega))
  clear hb1
  refine wp_region_sched [(0, false), (2, false), (1, true), (3, true), (4, true), (5, false), (6, false), (7, false), (9, false), (8, true), (10, true), (11, false), (12, false)] (CtS w.heap.size T T') (by kernel_rfl) (by kernel_rfl) x0 ?_
  refine sched_pure (v := .agg (tileA T)) rfl rfl (fun Y hY => exec_tile hY.1.row hs rfl) ?_
  go_simp
  refine sched_pure (v := .agg (tileA T)) rfl rfl (fun Y hY => exec_tile hY.1.row hs rfl) ?_
  go_simp
  refine sched_act rfl rfl ?_
  go_simp
  refine (colors_any T _ HT.out.1 HT.out.2.2.1).mono ?_
  rintro e w2 ⟨a2, cap2, rfl, r2, b2⟩
  have x2 := CtS.below ⟨x0.1.drew, x0.2.drew⟩ b2
  have b12 := b1.drew.trans (b2.mono b1.size)
  refine ⟨x2, ?_⟩
  refine sched_act rfl rfl ?_
  go_simp
  refine (rcolors_any T _ HT.out.1 HT.out.2.2.1).mono ?_
  rintro e w3 ⟨a3, cap3, rfl, r3, b3⟩
  have x3 := x2.below b3
  have b13 := b12.trans (b3.mono b12.size)
  refine ⟨x3, ?_⟩
  refine sched_act rfl rfl ?_
  go_simp
  refine (equal_any a2 a3 cap2 cap3 _ _ _ (r2.below b3) r3).mono ?_
  rintro e w4 ⟨rfl, b4⟩
  have x4 := x3.below b4
  have b14 := b13.trans (b4.mono b13.size)
  refine ⟨x4, ?_⟩
  rw [decide_eq_true rfl]
  repeat (refine sched_pure (v := ?_) rfl rfl ?_ ?_; rotate_left; (focus (intro Y hY; go_simp; try with_reducible rfl)); go_simp; try go_bits)
  refine sched_pure (v := .agg (tileA T)) rfl rfl (fun Y hY => exec_tile hY.1.row hs rfl) ?_
  go_simp
  refine sched_pure (v := .agg (tileA T)) rfl rfl (fun Y hY => exec_tile hY.1.row hs rfl) ?_
  go_simp
  refine sched_act rfl rfl ?_
  go_simp
  refine (runs_any T _ HT.out.1 HT.out.2.2.1).mono ?_
  rintro e w5 ⟨rfl, b5⟩
  have x5 := x4.below b5
  have b15 := b14.trans (b5.mono b14.size)
  refine ⟨x5, ?_⟩
  refine sched_act rfl rfl ?_
  go_simp
  refine (rruns_any T _ HT.out.1).mono ?_
  rintro e w6 ⟨rfl, b6⟩
  have x6 := x5.below b6
  have b16 := b15.trans (b6.mono b15.size)
  refine ⟨x6, ?_⟩
  clear x0 x2 x3 x4 x5 r2 r3 b1 b2 b3 b4 b5 b6 b12 b13 b14 b15
  repeat (refine sched_pure (v := ?_) rfl rfl ?_ ?_; rotate_left; (focus (intro Y hY; go_simp; try with_reducible rfl)); go_simp; try go_bits)
  refine sched_end ?_
  clear hs' 
  have hs' : (tileA T').size = 256 := by rw [tileA_size, HT.out.2.1]
  go_wp2
  obtain ⟨q, hq⟩ : ∃ q : Nat, min m1 6 = q := ⟨_, rfl⟩
  have q1 : (if (6 : Int) < (m1 : Int) then (6 : Int) else (m1 : Int)) = (q : Int) := by split <;> omega
  have q2 : q ≤ m1 ∧ q ≤ 6 := by omega
  obtain ⟨q2, q3⟩ := q2
  have q4 : (q : Int) ≤ (cap : Int) := by have := A0.out.2.2.1; omega
  have q5 : (0 : Int) ≤ (q : Int) := by omega
  have Q := Lib.hid hq
  clear hq
  obtain ⟨⟨c0, c1, c2, c3⟩, hc⟩ : ∃ c : Col, atT T 0 = c := ⟨_, rfl⟩
  obtain ⟨⟨d0, d1, d2, d3⟩, hd⟩ : ∃ c : Col, atT T' 9 = c := ⟨_, rfl⟩
  have bc : ByC (c0, c1, c2, c3) := by rw [← hc]; exact atT_by HT.out.2.2.1 (by rw [HT.out.1]; omega)
  have bd : ByC (d0, d1, d2, d3) := by rw [← hd]; exact atT_by HT.out.2.2.2 (by rw [HT.out.2.1]; omega)
  have HC := Lib.hid (And.intro hc (And.intro hd (And.intro bc bd)))
  clear hc hd bc bd
  refine wp_region_sched [(0, false), (1, false), (2, false), (3, false), (4, false), (5, false), (6, false), (7, false), (8, false), (9, false), (10, false), (11, false), (15, false), (12, true), (13, true), (14, false)] (CtS w.heap.size T T') (by kernel_rfl) (by kernel_rfl) ⟨x6.1.drew, x6.2.drew⟩ ?_
  repeat (refine sched_pure (v := ?_) rfl rfl ?_ ?_; rotate_left; (focus (intro Y hY; have y0 := hY.1.pix (k := 0) (by rw [HT.out.1]; omega); have y1 := hY.2.pix (k := 9) (by rw [HT.out.2.1]; omega); rw [HC.out.1] at y0; rw [HC.out.2.1] at y1; unfold PixAt at y0 y1; simp only [Nat.reduceMul, Nat.reduceAdd] at y0 y1; go_simp; try with_reducible rfl)); go_simp; try go_bits)
  refine sched_act rfl rfl ?_
  go_simp
  have y7 : CtS w.heap.size T T' (w6.alloc (.cells #[.int .u8 c0, .int .u8 c1, .int .u8 c2, .int .u8 c3, .int .u8 d0, .int .u8 d1, .int .u8 d2, .int .u8 d3] 23)).drew := ⟨(x6.1.alloc _).drew, (x6.2.alloc _).drew⟩
  refine ⟨y7, ?_⟩
  refine sched_act rfl rfl ?_
  have b17 := (b16.alloc b16.size (.cells #[.int .u8 c0, .int .u8 c1, .int .u8 c2, .int .u8 c3, .int .u8 d0, .int .u8 d1, .int .u8 d2, .int .u8 d3] 23)).drew
  have lt : (l.take q).length = q := by rw [List.length_take, A0.out.1]; omega
  have r7 := (A0.out.2.1.below b17).take q
  refine wp_append_full (.tmp 35) (.tmp 40) 26 rfl 23 _ (.agg #[.int .u8 0, .int .u8 0, .int .u8 0, .int .u8 0]) 4 4 Try.underlying26 rfl rfl rfl rfl rfl (by omega) ad q (colsV (l.take q)) rfl (fun e => by have := A0.out.2.2.2 e; omega) (by rw [colsV_length, lt])
    (fun b e => cols_cells (e ▸ r7)) ⟨w6.heap.size, 0, none⟩ 2 2 (colsV [(c0, c1, c2, c3), (d0, d1, d2, d3)]) rfl rfl (news_two w6 (c0, c1, c2, c3) (d0, d1, d2, d3) 23) (colsV_one _) (by omega) (by unfold maxLen; omega) (by omega) ?_
  intro v' w7 hO hg
  rw [← colsV_app] at hO
  have b18 := b17.grown hg (by simp; have := b16.size; omega) (fun j e => by cases e)
  have y8 : CtS w.heap.size T T' w7 := ⟨y7.1.kept hg (fun e => by cases e), y7.2.kept hg (fun e => by cases e)⟩
  have hl2 : q + 2 = (l.take q ++ [((c0, c1, c2, c3) : Col), (d0, d1, d2, d3)]).length := by rw [List.length_append, lt]; rfl
  rw [hl2] at hO
  obtain ⟨ad', cap', rfl, r8, _⟩ := cols_of_own (by rw [List.length_append, lt]; unfold maxLen; simp; omega) (fun c hc => by
    rcases List.mem_append.1 hc with h | h
    · exact r7.by_ c h
    · simp at h; rcases h with rfl | rfl
      · exact HC.out.2.2.1
      · exact HC.out.2.2.2) hO
  refine ⟨y8, ?_⟩
  obtain ⟨ls, hls⟩ : ∃ ls, l.take q ++ [((c0, c1, c2, c3) : Col), (d0, d1, d2, d3)] = ls := ⟨_, rfl⟩
  rw [hls] at r8 ⊢
  clear hO hls hg hl2 b17 y7 r7 lt x6 b16 q1 q2 q3 q4 q5
  have nls := r8.len
  unfold maxLen at nls
  go_simp
  repeat (refine sched_pure (v := ?_) rfl rfl ?_ ?_; rotate_left; (focus (intro Y hY; go_simp; try with_reducible rfl)); go_simp; try go_bits)
  refine sched_end ?_
  go_wp2
  generalize hm2 : ls.length = m2 at *
  have S0 := Lib.hid (And.intro y8 (And.intro b18 (And.intro r8 hm2)))
  have e0 := y8.1.lt
  have e1 := y8.2.lt
  clear y8 b18 r8 hm2
  go_loopg [43] m2 (fun n i wr => ∃ k : Nat, k ≤ m2 ∧ n = m2 - k ∧ i = .int .i64 k ∧ Hid (Below w7.heap.size w7 wr))
  case atStart => exact ⟨0, by omega, by omega, rfl, Lib.hid (Below.refl _ _)⟩
  case round =>
    obtain ⟨k, hk, hn, rfl, hj⟩ := hrel
    by_cases hlt : k < m2
    · have HN := Lib.hid hn
      clear hn
      obtain ⟨y8, b18, r8, hm2⟩ := S0.out
      obtain ⟨p, hp⟩ : ∃ p, ls[k]? = some p := ⟨_, List.getElem?_eq_getElem (by omega)⟩
      obtain ⟨a, rfl, qa⟩ := (r8.below hj.out).at_ k p hp
      have hS : CtR w.heap.size wr.heap.size T T' p (wr.alloc (.cells (colC p) 23)) :=
        ⟨⟨(y8.1.below hj.out y8.1.lt).alloc _, (y8.2.below hj.out y8.2.lt).alloc _⟩, Has.new _ _⟩
      have S1 := Lib.hid hS
      have hlw := hS.2.lt
      clear hp y8 b18 r8 hm2 hS
      obtain ⟨p0, p1, p2, p3⟩ := p
      unfold ColAt at qa
      go_wp2
      refine wp_region_sched [(0, false), (1, false), (3, false), (4, false), (2, true), (5, true), (6, false)] (CtR w.heap.size wr.heap.size T T' (p0, p1, p2, p3)) (by kernel_rfl) (by kernel_rfl) S1.out ?_
      refine sched_pure (v := .agg (tileA T)) rfl rfl (fun Y hY => exec_tile hY.1.1.row hs rfl) ?_
      go_simp
      repeat (refine sched_pure (v := ?_) rfl rfl ?_ ?_; rotate_left; (focus (intro Y hY; have y0 := hY.2.four; go_simp; try with_reducible rfl)); go_simp; try go_bits)
      refine sched_pure (v := .agg (tileA T)) rfl rfl (fun Y hY => exec_tile hY.1.1.row hs rfl) ?_
      go_simp
      repeat (refine sched_pure (v := ?_) rfl rfl ?_ ?_; rotate_left; (focus (intro Y hY; have y0 := hY.2.four; go_simp; try with_reducible rfl)); go_simp; try go_bits)
      refine sched_act rfl rfl ?_
      go_simp
      refine (count_any T (p0, p1, p2, p3) _ HT.out.1 HT.out.2.2.1).mono ?_
      rintro e v1 ⟨rfl, f1⟩
      have z1 := CtR.below ⟨⟨S1.out.1.1.drew, S1.out.1.2.drew⟩, S1.out.2.drew⟩ f1
      refine ⟨z1, ?_⟩
      refine sched_act rfl rfl ?_
      go_simp
      refine (rcount_any T (p0, p1, p2, p3) _ HT.out.1).mono ?_
      rintro e v2 ⟨rfl, f2⟩
      refine ⟨z1.below f2, ?_⟩
      repeat (refine sched_pure (v := ?_) rfl rfl ?_ ?_; rotate_left; (focus (intro Y hY; go_simp; try with_reducible rfl)); go_simp; try go_bits)
      refine sched_end ?_
      go_wp2
      go_roundg (m2 - (k + 1))
      case measure => have := HN.out; omega
      case rel =>
        refine ⟨k + 1, hlt, rfl, by go_num, Lib.hid ?_⟩
        have hs4 := (((hj.out.alloc hj.out.size (.cells (colC (p0, p1, p2, p3)) 23)).drew).trans (f1.mono ?_)).trans (f2.mono ?_)
        · exact hs4
        all_goals (have := hj.out.size; have := f1.size; simp only [World.size_alloc, World.size_drew] at *; omega)
    · obtain ⟨y8, b18, r8, hm2⟩ := S0.out
      have y9 := y8.below hj.out
      have b19 := b18.trans (hj.out.mono b18.size)
      have e2 := y9.1.row
      have e3 := y9.2.row
      have S2 := Lib.hid (And.intro y9 b19)
      clear y8 b18 r8 hm2 y9 b19 hj hn
      go_wp2_with (fail)
      have hBV := rboxV_eq HT.out.1 HT.out.2.1
      have HB := Lib.hid hBV
      clear hBV
      refine (box_any T T' _ HT.out.1 HT.out.2.1).mono ?_
      rintro e w8 ⟨rfl, b8⟩
      obtain ⟨V, hV⟩ : ∃ V, boxV T T' = V := ⟨_, rfl⟩
      rw [hV]
      have HV := Lib.hid hV
      clear hV
      obtain ⟨⟨B0, B1, B2, B3⟩, ok⟩ := V
      have y10 := S2.out.1.below b8
      have b20 := S2.out.2.trans (b8.mono S2.out.2.size)
      clear e2 e3
      have e2 := y10.1.row
      have e3 := y10.2.row
      have e4 := y10.1.lt
      have e5 := y10.2.lt
      have S3 := Lib.hid (And.intro y10 b20)
      clear y10 b20 b8
      go_wp2_with (fail)
      refine (rbox_any T T' _ HT.out.1 HT.out.2.1).mono ?_
      rintro e w9 ⟨rfl, b9⟩
      rw [HB.out, HV.out]
      have e6 := (Has.new w8 (.cells (box4 (B0, B1, B2, B3)) 33)).below b9 (Has.new _ _).lt
      have e7 := e6.four
      have b21 := (S3.out.2.alloc S3.out.2.size (.cells (box4 (B0, B1, B2, B3)) 33)).trans (b9.mono (S3.out.2.alloc S3.out.2.size _).size)
      have e8 := e6.lt
      clear e6 b9 e2 e3
      have S4 := Lib.hid b21
      clear b21
      go_wp2
      go_ret
      exact ⟨rfl, S4.out.alloc S4.out.size _⟩
end Go.Proofs.Ytedckelfdkfkoaa
