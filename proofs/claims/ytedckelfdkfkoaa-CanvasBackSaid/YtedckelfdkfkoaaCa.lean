/- Walks: sizes of canvases, and the tile of a pixel. -/
import Derived.Test.YtedckelfdkfkoaaD
import Derived.Test.YtedckelfdkfkoaaCv
import Derived.IntWalk
namespace Go.Proofs.Ytedckelfdkfkoaa
open Go.RowKit Go.Shelf
attribute [local go_sem] Oper.semAt_some
attribute [local go_sem 2000] run_col run_tile
attribute [local go_sem ↓] zero25 build25 build176z build176 load25 store25
attribute [local go_sem] rowAt_alloc rowFree_alloc rowAt_drew rowFree_drew zeroA_size zc176 zeroA_ones blkOf_ptr aggOf_agg

/-- may there be such sizes? -/
def mayB (x y : Int) : Bool := decide (1 ≤ x ∧ x ≤ 4 ∧ 1 ≤ y ∧ y ≤ 4)
theorem mayB_iff {x y : Int} : mayB x y = true ↔ 1 ≤ x ∧ x ≤ 4 ∧ 1 ≤ y ∧ y ≤ 4 := by simp [mayB]
set_option maxHeartbeats 400000 in
theorem may_any (x y : Int) (w : World) : Calls Try.prog 150 #[.agg #[.int .i64 x, .int .i64 y]] w fun e w' => e = .returned (.bool (mayB x y)) ∧ Below w.heap.size w w' := by
  go_enter Try.func150, Try.ntmps150
  go_wp2
  all_goals
    go_ret
    exact ⟨congrArg (fun b => Ending.returned (Value.bool b)) (by unfold mayB; rw [Bool.eq_iff_iff]; simp; omega), (Below.refl _ _).alloc (Nat.le_refl _) _⟩

set_option maxRecDepth 100000 in
set_option maxHeartbeats 1000000 in
theorem place_no (cw ch : Nat) (x y : Int) (w : World) (hw : cw ≤ 4) (hh : ch ≤ 4) (h : onB cw ch x y = false) :
    Calls Try.prog 141 #[.agg #[.int .i64 (cw : Int), .int .i64 (ch : Int)], .int .i64 x, .int .i64 y] w fun e w' => e = .returned (.tuple #[.int .i64 0, .agg #[.int .i64 0, .int .i64 0], .bool false]) ∧ Below w.heap.size w w' := by
  have h' := onB_not.1 h
  have w1 : IntKind.i64.wrap (8 * (cw : Int)) = 8 * (cw : Int) := IntWalk.i64_in _ (by omega)
  have w2 : IntKind.i64.wrap (8 * (ch : Int)) = 8 * (ch : Int) := IntWalk.i64_in _ (by omega)
  have hc : (¬ 0 ≤ x) ∨ (0 ≤ x ∧ ¬ 0 ≤ y) ∨ (0 ≤ x ∧ 0 ≤ y ∧ ¬ x < 8 * (cw : Int)) ∨ (0 ≤ x ∧ 0 ≤ y ∧ x < 8 * (cw : Int) ∧ ¬ y < 8 * (ch : Int)) := by omega
  clear h h'
  rcases hc with c1 | ⟨c1, c2⟩ | ⟨c1, c2, c3⟩ | ⟨c1, c2, c3, c4⟩
  all_goals
    go_enter Try.func141, Try.ntmps141
    go_wp2
    refine bodyPost_ret (v := .tuple #[.int .i64 0, .agg #[.int .i64 0, .int .i64 0], .bool false]) (by simp [results, Try.results141, go_sem]) rfl ⟨rfl, ?_⟩
    repeat (first | exact Below.refl _ _ | refine Below.alloc ?_ (by simp <;> omega) _ | refine Below.setCell ?_ (by simp <;> omega) _)

set_option maxRecDepth 100000 in
set_option maxHeartbeats 1000000 in
theorem place_yes (cw ch a b : Nat) (w : World) (hw : cw ≤ 4) (hh : ch ≤ 4) (ha : a < 8 * cw) (hb : b < 8 * ch) :
    Calls Try.prog 141 #[.agg #[.int .i64 (cw : Int), .int .i64 (ch : Int)], .int .i64 (a : Int), .int .i64 (b : Int)] w fun e w' => e = .returned (.tuple #[.int .i64 (tileN cw a b : Nat), .agg #[.int .i64 (a % 8 : Nat), .int .i64 (b % 8 : Nat)], .bool true]) ∧ Below w.heap.size w w' := by
  have w1 : IntKind.i64.wrap (8 * (cw : Int)) = 8 * (cw : Int) := IntWalk.i64_in _ (by omega)
  have w2 : IntKind.i64.wrap (8 * (ch : Int)) = 8 * (ch : Int) := IntWalk.i64_in _ (by omega)
  have c3 : (a : Int) < 8 * (cw : Int) := by omega
  have c4 : (b : Int) < 8 * (ch : Int) := by omega
  have hn := tileN_lt ha hb
  have h16 : cw * ch ≤ 16 := Nat.mul_le_mul hw hh
  obtain ⟨m, hm⟩ : ∃ m, b / 8 * cw = m := ⟨_, rfl⟩
  have hm16 : m + a / 8 ≤ 16 := by unfold tileN at hn; omega
  have hx : (b : Int) / 8 * (cw : Int) = (m : Int) := by rw [← hm]; push_cast; rfl
  have hv : (m : Int) + (a : Int) / 8 = ((tileN cw a b : Nat) : Int) := by unfold tileN; rw [hm]; push_cast; rfl
  have V := Lib.hid hv
  clear hv hn h16 hm
  go_enter Try.func141, Try.ntmps141
  go_wp2
  clear hx
  refine bodyPost_ret (v := .tuple #[.int .i64 ((m : Int) + (a : Int) / 8), .agg #[.int .i64 ((a : Int) % 8), .int .i64 ((b : Int) % 8)], .bool true]) (by simp [results, Try.results141, go_sem]) rfl ⟨by rw [V.out]; rfl, ?_⟩
  repeat (first | exact Below.refl _ _ | refine Below.alloc ?_ (by simp <;> omega) _ | refine Below.setCell ?_ (by simp <;> omega) _)

set_option maxHeartbeats 400000 in
theorem csize_any (b : Nat) (c : Cv) (w : World) (hc : CvAt w b c) : Calls Try.prog 69 #[ptrV b] w fun e w' => e = .returned (.tuple #[.int .i64 (8 * c.w : Nat), .int .i64 (8 * c.h : Nat)]) ∧ Below w.heap.size w w' := by
  obtain ⟨g, cap, k⟩ := hc
  have ok := k.ok
  have w4 := ok.w4
  have h4 := ok.h4
  have w1 : IntKind.i64.wrap (8 * (c.w : Int)) = 8 * (c.w : Int) := IntWalk.i64_in _ (by omega)
  have w2 : IntKind.i64.wrap (8 * (c.h : Int)) = 8 * (c.h : Int) := IntWalk.i64_in _ (by omega)
  have K := Lib.hid k
  clear k ok
  go_enter Try.func69, Try.ntmps69
  go_wp2
  refine wp_region_sched [(0, false), (1, false), (2, false), (3, false), (4, false), (5, false), (6, false), (7, false), (8, false), (9, false), (10, false), (11, false), (12, false), (13, false)] (Since w) (by kernel_rfl) (by kernel_rfl) (Since.refl w).drew ?_
  repeat (refine sched_pure (v := ?_) rfl rfl ?_ ?_; rotate_left; (focus (intro Y hY; have y0 := (K.out.rec_.since hY).three; go_simp; try with_reducible rfl)); go_simp; try go_bits)
  refine sched_end ?_
  go_wp2
  go_ret2
  exact ⟨by push_cast; rfl, (Since.refl w).drew⟩
set_option maxHeartbeats 400000 in
theorem csize_nil (w : World) : Calls Try.prog 69 #[.pointer none] w fun e w' => e = .returned (.tuple #[.int .i64 0, .int .i64 0]) ∧ Below w.heap.size w w' := by
  go_enter Try.func69, Try.ntmps69
  go_wp2
  go_ret2
  exact ⟨rfl, Below.refl _ _⟩
end Go.Proofs.Ytedckelfdkfkoaa
