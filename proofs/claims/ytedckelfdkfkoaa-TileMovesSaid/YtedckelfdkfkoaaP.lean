/- The law TileMoves: tiles that are turned, flipped, and shifted. -/
import Derived.Test.YtedckelfdkfkoaaO
import Derived.Test.YtedckelfdkfkoaaWk
namespace Go.Proofs.Ytedckelfdkfkoaa
open Go.RowKit Go.Shelf
attribute [local go_sem] Oper.semAt_some
attribute [local go_sem 2000] run_col run_tile
attribute [local go_sem] colB_self
attribute [local go_sem ↓] Go.wp_at_zero Go.wp_at_succ
attribute [local go_sem ↓] zero25 build25 build176z build176 load25 store25
attribute [local go_sem] rowAt_alloc rowFree_alloc rowAt_drew rowFree_drew rowAt_alloc_map zeroA_size zc176 zeroA_ones blkOf_ptr aggOf_agg

/-- what lies where in the law -/
def MvS (n q : Nat) (T : List Col) (c : Col) (p : Int × Int) (Y : World) : Prop := Has Y n (.cells (tileA T) 25 (0, 0)) ∧ Has Y (n + 1) (.cells (colC c) 23 (0, 0)) ∧ Has Y q (.cells #[.int .i64 p.1, .int .i64 p.2] 43 (0, 0))
theorem MvS.below {n q : Nat} {T : List Col} {c : Col} {p : Int × Int} {Y Y' : World} (h : MvS n q T c p Y) (b : Below Y.heap.size Y Y') : MvS n q T c p Y' :=
  ⟨h.1.below b h.1.lt, h.2.1.below b h.2.1.lt, h.2.2.below b h.2.2.lt⟩
theorem MvS.drew {n q : Nat} {T : List Col} {c : Col} {p : Int × Int} {Y : World} (h : MvS n q T c p Y) : MvS n q T c p Y.drew := ⟨h.1.drew, h.2.1.drew, h.2.2.drew⟩
theorem MvS.cells {n q : Nat} {T : List Col} {c : Col} {p : Int × Int} {Y : World} (h : MvS n q T c p Y) : (Y.cell? ⟨n + 1, 0, none⟩ = some (.int .u8 c.1) ∧ Y.cell? ⟨n + 1, 1, none⟩ = some (.int .u8 c.2.1) ∧ Y.cell? ⟨n + 1, 2, none⟩ = some (.int .u8 c.2.2.1) ∧ Y.cell? ⟨n + 1, 3, none⟩ = some (.int .u8 c.2.2.2)) ∧
    (Y.cell? ⟨q, 0, none⟩ = some (.int .i64 p.1) ∧ Y.cell? ⟨q, 1, none⟩ = some (.int .i64 p.2)) := ⟨h.2.1.four, h.2.2.cell 0, h.2.2.cell 1⟩

set_option maxRecDepth 100000 in
set_option maxHeartbeats 2000000 in
theorem moves_law (T : List Col) (ad : Option Addr) (cap : Nat) (l : List (Int × Int)) (c : Col) (w : World) (hT : T.length = 64) (hl : PtRow w ad l) :
    Calls Try.prog 5 #[.agg (tileA T), .slice ad l.length cap, colV c] w fun e w' => e = .returned (.bool true) ∧ Below w.heap.size w w' := by
  have n1 := hl.len
  unfold maxLen at n1
  generalize hm1 : l.length = m1 at *
  have hs : (tileA T).size = 256 := by rw [tileA_size, hT]
  have A0 := Lib.hid (And.intro hm1 hl)
  have HT := Lib.hid hT
  obtain ⟨c0, c1, c2, c3⟩ := c
  have lf : (moveT T z0 (fun x y => (7 - x, y))).length = 64 := moveT_length _ _ _
  clear hm1 hl
  go_enter Try.func5, Try.ntmps5
  go_wp2_with (go_at_call 24; refine (wakes4_any _).mono ?_; rintro e w1 ⟨rfl, hb1⟩)
  have x0 := (((Has.new w (.cells (tileA T) 25 (0, 0))).alloc (.cells (colC (c0, c1, c2, c3)) 23 (0, 0)))).below hb1 (by simp <;> omega)
  have x1 := (Has.new (w.alloc (.cells (tileA T) 25 (0, 0))) (.cells (colC (c0, c1, c2, c3)) 23 (0, 0))).below hb1 (Has.new _ _).lt
  simp only [World.size_alloc] at x1
  have b1 := ((((Below.refl w.heap.size w).alloc (by simp) (.cells (tileA T) 25)).alloc (by simp <;> omega) (.cells (colC (c0, c1, c2, c3)) 23))).trans (hb1.mono (by simp; omega))
  clear hb1
  refine wp_region_sched [(0, false), (2, false), (1, true), (3, true), (4, false)] (fun Y => Has Y w.heap.size (.cells (tileA T) 25 (0, 0)) ∧ Has Y (w.heap.size + 1) (.cells (colC (c0, c1, c2, c3)) 23 (0, 0))) (by kernel_rfl) (by kernel_rfl) ⟨x0.drew, x1.drew⟩ ?_
  refine sched_pure (v := .agg (tileA T)) rfl rfl (fun Y hY => exec_tile hY.1.row hs rfl) ?_
  go_simp
  refine sched_pure (v := .agg (tileA T)) rfl rfl (fun Y hY => exec_tile hY.1.row hs rfl) ?_
  go_simp
  refine sched_act rfl rfl ?_
  go_simp
  refine (flip_any T _ HT.out).mono ?_
  rintro e w2 ⟨rfl, b2⟩
  have y0 := x0.drew.below b2 x0.lt
  have y1 := x1.drew.below b2 x1.lt
  have b12 := b1.drew.trans (b2.mono b1.size)
  refine ⟨⟨y0, y1⟩, ?_⟩
  refine sched_act rfl rfl ?_
  go_simp
  refine (rflip_any T _ HT.out).mono ?_
  rintro e w3 ⟨rfl, b3⟩
  have z0' := y0.below b3 y0.lt
  have z1' := y1.below b3 y1.lt
  have b13 := b12.trans (b3.mono b12.size)
  refine ⟨⟨z0', z1'⟩, ?_⟩
  clear x0 x1 b1 b2 y0 y1 b12 b3
  repeat (refine sched_pure (v := ?_) rfl rfl ?_ ?_; rotate_left; (focus (intro Y hY; go_simp; try with_reducible rfl)); go_simp; try go_bits)
  refine sched_end ?_
  have hlow := z1'.lt
  have S0 := Lib.hid (And.intro z0' (And.intro z1' b13))
  clear z0' z1' b13
  go_wp2
  go_loopg [18] m1 (fun n i wr => ∃ k : Nat, k ≤ m1 ∧ n = m1 - k ∧ i = .int .i64 k ∧ Hid (Below w3.heap.size w3 wr))
  case atStart => exact ⟨0, by omega, by omega, rfl, Lib.hid (Below.refl _ _)⟩
  case round =>
    obtain ⟨k, hk, hn, rfl, hj⟩ := hrel
    by_cases hlt : k < m1
    · have HN := Lib.hid hn
      clear hn
      obtain ⟨hm1, hl⟩ := A0.out
      obtain ⟨p, hp⟩ : ∃ p, l[k]? = some p := ⟨_, List.getElem?_eq_getElem (by omega)⟩
      have bw := S0.out.2.2.trans (hj.out.mono S0.out.2.2.size)
      obtain ⟨a, rfl, q⟩ := (hl.below bw).at_ k p hp
      have qa := q.1
      have qb := q.2
      have hS : MvS w.heap.size wr.heap.size T (c0, c1, c2, c3) p (wr.alloc (.cells #[.int .i64 p.1, .int .i64 p.2] 43)) :=
        ⟨(S0.out.1.below hj.out S0.out.1.lt).alloc _, (S0.out.2.1.below hj.out S0.out.2.1.lt).alloc _, Has.new _ _⟩
      have S1 := Lib.hid (And.intro hS (And.intro hp bw))
      clear hm1 hl hp bw q hS
      obtain ⟨p0, p1⟩ := p
      by_cases h8 : k = 8
      · have e8 : ((k : Int) == 8) = true := by simp; omega
        clear h8
        go_wp2
        go_ret
        exact ⟨rfl, (S1.out.2.2.alloc S1.out.2.2.size _)⟩
      · have e8 : ((k : Int) == 8) = false := by simp; omega
        clear h8
        have hlw := S1.out.1.2.2.lt
        have lt1 : (turnsT (quartN p0) T).length = 64 := turnsT_length _ _ HT.out
        have ls1 : (moveT T (c0, c1, c2, c3) (fun u v => (u + clampZ p0, v + clampZ p1))).length = 64 := moveT_length _ _ _
        go_wp2
        refine wp_region_sched [(0, false), (1, false), (2, false), (4, false), (5, false), (6, false), (3, true), (7, true), (8, false), (9, false), (10, false), (11, false), (12, false), (13, false), (14, false), (15, false), (17, false), (18, false), (19, false), (20, false), (21, false), (22, false), (16, true), (23, true), (24, false), (25, false)] (MvS w.heap.size wr.heap.size T (c0, c1, c2, c3) (p0, p1)) (by kernel_rfl) (by kernel_rfl) S1.out.1 ?_
        refine sched_pure (v := .agg (tileA T)) rfl rfl (fun Y hY => exec_tile hY.1.row hs rfl) ?_
        go_simp
        repeat (refine sched_pure (v := ?_) rfl rfl ?_ ?_; rotate_left; (focus (intro Y hY; have y0 := hY.cells; simp only at y0; go_simp; try with_reducible rfl)); go_simp; try go_bits)
        refine sched_pure (v := .agg (tileA T)) rfl rfl (fun Y hY => exec_tile hY.1.row hs rfl) ?_
        go_simp
        repeat (refine sched_pure (v := ?_) rfl rfl ?_ ?_; rotate_left; (focus (intro Y hY; have y0 := hY.cells; simp only at y0; go_simp; try with_reducible rfl)); go_simp; try go_bits)
        have hc1 := S1.out.1
        have bb := S1.out.2.2.alloc S1.out.2.2.size (.cells #[.int .i64 p0, .int .i64 p1] 43) |>.drew
        refine sched_act rfl rfl ?_
        go_simp
        refine (turn_any T p0 _ HT.out).mono ?_
        rintro e v1 ⟨rfl, f1⟩
        have y1 := (MvS.drew hc1).below f1
        have g1 := bb.trans (f1.mono bb.size)
        refine ⟨y1, ?_⟩
        refine sched_act rfl rfl ?_
        go_simp
        refine (rturns_any T p0 _ HT.out).mono ?_
        rintro e v2 ⟨rfl, f2⟩
        have y2 := y1.below f2
        have g2 := g1.trans (f2.mono g1.size)
        refine ⟨y2, ?_⟩
        repeat (refine sched_pure (v := ?_) rfl rfl ?_ ?_; rotate_left; (focus (intro Y hY; have y0 := hY.cells; simp only at y0; go_simp; try with_reducible rfl)); go_simp; try go_bits)
        refine sched_pure (v := .agg (tileA T)) rfl rfl (fun Y hY => exec_tile hY.1.row hs rfl) ?_
        go_simp
        repeat (refine sched_pure (v := ?_) rfl rfl ?_ ?_; rotate_left; (focus (intro Y hY; have y0 := hY.cells; simp only at y0; go_simp; try with_reducible rfl)); go_simp; try go_bits)
        refine sched_pure (v := .agg (tileA T)) rfl rfl (fun Y hY => exec_tile hY.1.row hs rfl) ?_
        go_simp
        repeat (refine sched_pure (v := ?_) rfl rfl ?_ ?_; rotate_left; (focus (intro Y hY; have y0 := hY.cells; simp only at y0; go_simp; try with_reducible rfl)); go_simp; try go_bits)
        refine sched_act rfl rfl ?_
        go_simp
        refine (shift_any T p0 p1 (c0, c1, c2, c3) _ HT.out).mono ?_
        rintro e v3 ⟨rfl, f3⟩
        have y3 := y2.below f3
        have g3 := g2.trans (f3.mono g2.size)
        refine ⟨y3, ?_⟩
        refine sched_act rfl rfl ?_
        go_simp
        refine (rshift_any T p0 p1 (c0, c1, c2, c3) _ HT.out).mono ?_
        rintro e v4 ⟨rfl, f4⟩
        have y4 := y3.below f4
        have g4 := g3.trans (f4.mono g3.size)
        refine ⟨y4, ?_⟩
        repeat (refine sched_pure (v := ?_) rfl rfl ?_ ?_; rotate_left; (focus (intro Y hY; have y0 := hY.cells; simp only at y0; go_simp; try with_reducible rfl)); go_simp; try go_bits)
        refine sched_end ?_
        go_wp2
        go_roundg (m1 - (k + 1))
        case measure => have := HN.out; omega
        case rel =>
          refine ⟨k + 1, hlt, rfl, by go_num, ?_⟩
          refine Lib.hid ?_
          have hs4 := (((((hj.out.alloc hj.out.size (.cells #[.int .i64 p0, .int .i64 p1] 43)).drew).trans (f1.mono ?_)).trans (f2.mono ?_)).trans (f3.mono ?_)).trans (f4.mono ?_)
          · exact hs4
          all_goals (have := hj.out.size; have := f1.size; have := f2.size; have := f3.size; simp only [World.size_alloc, World.size_drew] at *; omega)
    · have HB := Lib.hid (S0.out.2.2.trans (hj.out.mono S0.out.2.2.size))
      go_wp2
      go_ret
      exact ⟨rfl, HB.out⟩
end Go.Proofs.Ytedckelfdkfkoaa
