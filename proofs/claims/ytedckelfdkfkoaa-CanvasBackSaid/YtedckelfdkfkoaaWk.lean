/- Walks: does the layer of tiles do anything? -/
import Derived.Test.YtedckelfdkfkoaaEq
import Derived.Test.YtedckelfdkfkoaaFl
import Derived.Deep.DrawnRows
namespace Go.Proofs.Ytedckelfdkfkoaa
open Go.RowKit Go.Shelf
attribute [local go_sem] Oper.semAt_some
attribute [local go_sem 2000] run_col run_tile
attribute [local go_sem] colB_self
attribute [local go_sem ↓] Go.wp_at_zero Go.wp_at_succ
attribute [local go_sem ↓] zero25 build25 build176z build176 load25 store25
attribute [local go_sem] rowAt_alloc rowFree_alloc rowAt_drew rowFree_drew rowAt_alloc_map zeroA_size zc176 zeroA_ones blkOf_ptr aggOf_agg

theorem ptRow_two {W : World} {r : Nat} {a0 a1 b0 b1 : Int} {T : TypeId} {z : Nat × Nat} (h : Has W r (.cells #[.int .i64 a0, .int .i64 a1, .int .i64 b0, .int .i64 b1] T z)) (ha : WdP (a0, a1)) (hb : WdP (b0, b1)) : PtRow W (some ⟨r, 0, none⟩) [(a0, a1), (b0, b1)] := by
  refine ⟨by simp [maxLen], fun i c hi => ?_, fun c hc => ?_⟩
  · match i, hi with
    | 0, hi => cases hi; exact ⟨_, rfl, h.cell 0, h.cell 1⟩
    | 1, hi => cases hi; exact ⟨_, rfl, h.cell 2, h.cell 3⟩
    | i + 2, hi => simp at hi
  · simp only [List.mem_cons, List.not_mem_nil, or_false] at hc
    rcases hc with rfl | rfl <;> assumption
theorem colRow_two {W : World} {r : Nat} {a0 a1 a2 a3 b0 b1 b2 b3 : Int} {T : TypeId} {z : Nat × Nat} (h : Has W r (.cells #[.int .u8 a0, .int .u8 a1, .int .u8 a2, .int .u8 a3, .int .u8 b0, .int .u8 b1, .int .u8 b2, .int .u8 b3] T z))
    (ha : ByC (a0, a1, a2, a3)) (hb : ByC (b0, b1, b2, b3)) : ColRow W (some ⟨r, 0, none⟩) [(a0, a1, a2, a3), (b0, b1, b2, b3)] := by
  refine ⟨by simp [maxLen], fun i c hi => ?_, fun c hc => ?_⟩
  · match i, hi with
    | 0, hi => cases hi; exact ⟨_, rfl, h.cell 0, h.cell 1, h.cell 2, h.cell 3⟩
    | 1, hi => cases hi; exact ⟨_, rfl, h.cell 4, h.cell 5, h.cell 6, h.cell 7⟩
    | i + 2, hi => simp at hi
  · simp only [List.mem_cons, List.not_mem_nil, or_false] at hc
    rcases hc with rfl | rfl <;> assumption
theorem new_rep (c : Col) (w : World) : Calls Try.prog 46 #[colV c] w fun e w' => e = .returned (.agg (tileA (List.replicate 64 c))) ∧ Below w.heap.size w w' := by
  rw [← newT]; exact new_any c w
def redC : Col := (255, 0, 0, 255)
/-- the tile of the first words -/
def twT : List Col := (blankT.set 1 redC).set 26 redC
theorem twT_length : twT.length = 64 := by simp [twT, blankT]
theorem twT_by : ∀ c ∈ twT, ByC c := by
  have hb : ∀ c ∈ blankT, ByC c := fun c hc => by rw [List.eq_of_mem_replicate hc]; unfold ByC By z0; decide
  have hr : ByC redC := by unfold ByC By redC; decide
  intro c hc
  rcases List.mem_or_eq_of_mem_set hc with h | rfl
  · rcases List.mem_or_eq_of_mem_set h with h | rfl
    · exact hb c h
    · exact hr
  · exact hr
theorem blankT_len64 : blankT.length = 64 := blankT_length
theorem with_tw (r : Nat) (w : World) (h : Has w r (.cells #[.int .i64 1, .int .i64 0, .int .i64 2, .int .i64 3] 43 (0, 0))) :
    Calls Try.prog 35 #[.agg (tileA blankT), .agg #[.int .u8 255, .int .u8 0, .int .u8 0, .int .u8 255], .slice (some ⟨r, 0, none⟩) 2 2] w fun e w' => e = .returned (.tuple #[.agg (tileA twT), .int .i64 0]) ∧ Below w.heap.size w w' := by
  have h2 := with_any blankT redC (some ⟨r, 0, none⟩) 2 [(1, 0), (2, 3)] w blankT_length (ptRow_two h (by unfold WdP; decide) (by unfold WdP; decide))
  rw [show withT redC blankT [(1, 0), (2, 3)] = some twT from by kernel_rfl] at h2
  exact h2
theorem box_tw (w : World) : Calls Try.prog 32 #[.agg (tileA twT), .agg (tileA blankT)] w fun e w' => e = .returned (.tuple #[.agg #[.int .i64 1, .int .i64 0, .int .i64 2, .int .i64 3], .bool true]) ∧ Below w.heap.size w w' := by
  have h2 := box_any twT blankT w twT_length blankT_length
  rw [show boxV twT blankT = ((1, 0, 2, 3), true) from by kernel_rfl] at h2
  exact h2

theorem eq_tw (ad : Option Addr) (cap r : Nat) (w : World) (h : ColRow w ad [(0, 0, 0, 0), (255, 0, 0, 255)]) (hr : Has w r (.cells #[.int .u8 0, .int .u8 0, .int .u8 0, .int .u8 0, .int .u8 255, .int .u8 0, .int .u8 0, .int .u8 255] 23 (0, 0))) :
    Calls Try.prog 25 #[.slice ad 2 cap, .slice (some ⟨r, 0, none⟩) 2 2] w fun e w' => e = .returned (.bool true) ∧ Below w.heap.size w w' := by
  have h2 := equal_any ad (some ⟨r, 0, none⟩) cap 2 [(0, 0, 0, 0), (255, 0, 0, 255)] [(0, 0, 0, 0), (255, 0, 0, 255)] w h (colRow_two hr (by unfold ByC By; decide) (by unfold ByC By; decide))
  rw [decide_eq_true rfl] at h2
  exact h2
/-- what lies where before the last test -/
def TwS (p q q3 x2 x4 : Nat) (Y : World) : Prop := Has Y p (.cells #[.int .u8 0, .int .u8 0, .int .u8 0, .int .u8 0] 23 (0, 0)) ∧ Has Y (p + 1) (.cells #[.int .u8 255, .int .u8 0, .int .u8 0, .int .u8 255] 23 (0, 0)) ∧ Has Y q (.cells (tileA twT) 25 (0, 0)) ∧
  Has Y q3 (.cells #[.int .i64 1, .int .i64 0, .int .i64 2, .int .i64 3] 33 (0, 0)) ∧ Has Y x2 (.cells #[.int .u8 255, .int .u8 0, .int .u8 0, .int .u8 255] 23 (0, 0)) ∧ Has Y x4 (.cells #[.int .u8 255, .int .u8 0, .int .u8 0, .int .u8 255] 23 (0, 0))
theorem TwS.below {p q q3 x2 x4 : Nat} {Y Y' : World} (h : TwS p q q3 x2 x4 Y) (b : Below Y.heap.size Y Y') : TwS p q q3 x2 x4 Y' :=
  ⟨h.1.below b h.1.lt, h.2.1.below b h.2.1.lt, h.2.2.1.below b h.2.2.1.lt, h.2.2.2.1.below b h.2.2.2.1.lt, h.2.2.2.2.1.below b h.2.2.2.2.1.lt, h.2.2.2.2.2.below b h.2.2.2.2.2.lt⟩
theorem TwS.drew {p q q3 x2 x4 : Nat} {Y : World} (h : TwS p q q3 x2 x4 Y) : TwS p q q3 x2 x4 Y.drew := h
theorem TwS.tile {p q q3 x2 x4 : Nat} {Y : World} (h : TwS p q q3 x2 x4 Y) : rowAt Y q = some (tileA twT) := h.2.2.1.row
theorem TwS.cells {p q q3 x2 x4 : Nat} {Y : World} (h : TwS p q q3 x2 x4 Y) : (Y.cell? ⟨p, 0, none⟩ = some (.int .u8 0) ∧ Y.cell? ⟨p, 1, none⟩ = some (.int .u8 0) ∧ Y.cell? ⟨p, 2, none⟩ = some (.int .u8 0) ∧ Y.cell? ⟨p, 3, none⟩ = some (.int .u8 0)) ∧
    (Y.cell? ⟨p + 1, 0, none⟩ = some (.int .u8 255) ∧ Y.cell? ⟨p + 1, 1, none⟩ = some (.int .u8 0) ∧ Y.cell? ⟨p + 1, 2, none⟩ = some (.int .u8 0) ∧ Y.cell? ⟨p + 1, 3, none⟩ = some (.int .u8 255)) ∧
    (Y.cell? ⟨q3, 0, none⟩ = some (.int .i64 1) ∧ Y.cell? ⟨q3, 1, none⟩ = some (.int .i64 0) ∧ Y.cell? ⟨q3, 2, none⟩ = some (.int .i64 2) ∧ Y.cell? ⟨q3, 3, none⟩ = some (.int .i64 3)) ∧
    (Y.cell? ⟨x2, 0, none⟩ = some (.int .u8 255) ∧ Y.cell? ⟨x2, 1, none⟩ = some (.int .u8 0) ∧ Y.cell? ⟨x2, 2, none⟩ = some (.int .u8 0) ∧ Y.cell? ⟨x2, 3, none⟩ = some (.int .u8 255)) ∧
    (Y.cell? ⟨x4, 0, none⟩ = some (.int .u8 255) ∧ Y.cell? ⟨x4, 1, none⟩ = some (.int .u8 0) ∧ Y.cell? ⟨x4, 2, none⟩ = some (.int .u8 0) ∧ Y.cell? ⟨x4, 3, none⟩ = some (.int .u8 255)) :=
  ⟨h.1.four, h.2.1.four, h.2.2.2.1.four, h.2.2.2.2.1.four, h.2.2.2.2.2.four⟩
def tT1 : List Col := turnsT (quartN 1) twT
theorem tT1_length : tT1.length = 64 := turnsT_length _ _ twT_length
def tS1 : List Col := moveT twT redC (fun u v => (u + clampZ (-1), v + clampZ 0))
theorem tS1_length : tS1.length = 64 := moveT_length _ _ _
theorem turn_tw (w : World) : Calls Try.prog 38 #[.agg (tileA twT), .int .i64 1] w fun e w' => e = .returned (.agg (tileA tT1)) ∧ Below w.heap.size w w' := turn_any twT 1 w twT_length
theorem shift_tw (w : World) : Calls Try.prog 40 #[.agg (tileA twT), .int .i64 (-1), .int .i64 0, .agg #[.int .u8 255, .int .u8 0, .int .u8 0, .int .u8 255]] w fun e w' => e = .returned (.agg (tileA tS1)) ∧ Below w.heap.size w w' := shift_any twT (-1) 0 redC w twT_length
theorem at_tT1 (w : World) : Calls Try.prog 34 #[.agg (tileA tT1), .int .i64 7, .int .i64 1] w fun e w' => e = .returned (.tuple #[.agg #[.int .u8 255, .int .u8 0, .int .u8 0, .int .u8 255], .int .i64 0]) ∧ Below w.heap.size w w' := by
  have h2 := at_any tT1 7 1 w tT1_length
  rw [show atV tT1 7 1 = (redC, 0) from by kernel_rfl] at h2
  exact h2
theorem at_tS1 (w : World) : Calls Try.prog 34 #[.agg (tileA tS1), .int .i64 0, .int .i64 0] w fun e w' => e = .returned (.tuple #[.agg #[.int .u8 255, .int .u8 0, .int .u8 0, .int .u8 255], .int .i64 0]) ∧ Below w.heap.size w w' := by
  have h2 := at_any tS1 0 0 w tS1_length
  rw [show atV tS1 0 0 = (redC, 0) from by kernel_rfl] at h2
  exact h2
theorem at_no (w : World) : Calls Try.prog 34 #[.agg (tileA twT), .int .i64 8, .int .i64 0] w fun e w' => e = .returned (.tuple #[.agg #[.int .u8 0, .int .u8 0, .int .u8 0, .int .u8 0], .int .i64 140]) ∧ Below w.heap.size w w' := by
  have h2 := at_any twT 8 0 w twT_length
  rw [show atV twT 8 0 = (z0, 140) from by kernel_rfl] at h2
  exact h2
theorem runs_tw (w : World) : Calls Try.prog 28 #[.agg (tileA twT)] w fun e w' => e = .returned (.int .i64 5) ∧ Below w.heap.size w w' := by
  have h2 := runs_any twT w twT_length twT_by
  rw [show 1 + manyN runsF (atT twT 0) twT = 5 from by kernel_rfl] at h2
  exact h2
theorem count_tw (w : World) : Calls Try.prog 30 #[.agg (tileA twT), .agg #[.int .u8 255, .int .u8 0, .int .u8 0, .int .u8 255]] w fun e w' => e = .returned (.int .i64 2) ∧ Below w.heap.size w w' := by
  have h2 := count_any twT redC w twT_length twT_by
  rw [show manyN countF redC twT = 2 from by kernel_rfl] at h2
  exact h2
theorem colors_tw (w : World) : Calls Try.prog 26 #[.agg (tileA twT)] w fun e w' => ∃ ad cap, e = .returned (.slice ad 2 cap) ∧ ColRow w' ad [(0, 0, 0, 0), (255, 0, 0, 255)] ∧ Below w.heap.size w w' := by
  have h2 := colors_any twT w twT_length twT_by
  rw [show firstsL twT = [(0, 0, 0, 0), (255, 0, 0, 255)] from by kernel_rfl] at h2
  exact h2

set_option maxRecDepth 100000 in
set_option maxHeartbeats 2000000 in
theorem wakes4_any (w : World) : Calls Try.prog 24 #[] w fun e w' => e = .returned (.bool true) ∧ Below w.heap.size w w' := by
  have hbl : tileA (List.replicate 64 ((0, 0, 0, 0) : Col)) = tileA blankT := rfl
  go_enter Try.func24, Try.ntmps24
  go_wp2
  generalize hX : World.alloc _ _ = X
  have x0 : Has X w.heap.size (.cells #[.int .u8 0, .int .u8 0, .int .u8 0, .int .u8 0] 23 (0, 0)) := by rw [← hX]; exact (Has.new' (by simp)).alloc _
  have x1 : Has X (w.heap.size + 1) (.cells #[.int .u8 255, .int .u8 0, .int .u8 0, .int .u8 255] 23 (0, 0)) := by rw [← hX]; exact Has.new' (by simp)
  have bX : Below w.heap.size w X := by rw [← hX]; exact ((Below.refl _ _).alloc (by simp) _).alloc (by simp) _
  clear hX
  have L0 : ∀ {w'}, Below X.drew.heap.size X.drew w' → (w'.cell? ⟨w.heap.size, 0, none⟩ = some (.int .u8 0) ∧ w'.cell? ⟨w.heap.size, 1, none⟩ = some (.int .u8 0) ∧ w'.cell? ⟨w.heap.size, 2, none⟩ = some (.int .u8 0) ∧ w'.cell? ⟨w.heap.size, 3, none⟩ = some (.int .u8 0)) ∧ (w'.cell? ⟨w.heap.size + 1, 0, none⟩ = some (.int .u8 255) ∧ w'.cell? ⟨w.heap.size + 1, 1, none⟩ = some (.int .u8 0) ∧ w'.cell? ⟨w.heap.size + 1, 2, none⟩ = some (.int .u8 0) ∧ w'.cell? ⟨w.heap.size + 1, 3, none⟩ = some (.int .u8 255)) :=
    fun hB => ⟨(x0.drew.below hB x0.lt).four, (x1.drew.below hB x1.lt).four⟩
  refine wp_region_freshL 11 [(11, true), (12, false)] [9]
    [(fun _ => .agg #[.int .u8 0, .int .u8 0, .int .u8 0, .int .u8 0], none),
     (fun _ => .agg (tileA blankT), none),
     (fun _ => .agg #[.int .u8 255, .int .u8 0, .int .u8 0, .int .u8 255], none),
     (fun _ => .agg #[.int .i64 1, .int .i64 0], none),
     (fun _ => .agg #[.int .i64 2, .int .i64 3], none),
     (fun r => .slice (some ⟨r, 0, none⟩) 2 2, some (.cells #[.int .i64 1, .int .i64 0, .int .i64 2, .int .i64 3] 43)),
     (fun _ => .tuple #[.agg (tileA twT), .int .i64 0], none),
     (fun _ => .tuple #[.agg (tileA twT), .int .i64 0], none),
     (fun _ => .agg (tileA twT), none),
     (fun _ => .int .i64 0, none),
     (fun r => .pointer (some ⟨r, 0, none⟩), some (.cells zeroA 25))] (fun _ _ => True) (by kernel_rfl) (by kernel_rfl) rfl ?_
  intro z
  refine freshL_pure rfl rfl rfl (fun w' hB => by have l0 := L0 hB; go_simp) ?_
  go_simp
  refine freshL_call rfl rfl rfl (fun w' hB hA => by go_simp) (fun w' hB hA => new_rep (0, 0, 0, 0) w') ?_
  go_simp
  refine freshL_pure rfl rfl rfl (fun w' hB => by have l0 := L0 hB; go_simp) ?_
  go_simp
  refine freshL_pure rfl rfl rfl (fun w' hB => by go_simp) ?_
  go_simp
  refine freshL_pure rfl rfl rfl (fun w' hB => by go_simp) ?_
  go_simp
  refine freshL_new rfl rfl rfl (fun w' => by go_simp) ?_
  go_simp
  refine freshL_call rfl rfl rfl (fun w' hB hA => by go_simp) (fun w' hB hA => with_tw (z 5) w' (hA 5 _ _ (by kernel_rfl) rfl).2) ?_
  go_simp
  refine freshL_pure rfl rfl rfl (fun w' hB => by go_simp) ?_
  go_simp
  refine freshL_pure rfl rfl rfl (fun w' hB => by go_simp) ?_
  go_simp
  refine freshL_late rfl rfl rfl (fun w' => by go_simp) ?_
  go_simp
  refine freshL_new rfl rfl rfl (fun w' => by go_simp) ?_
  go_simp
  refine freshL_end fun V hB hA hD => ?_
  have y0 := x0.drew.below hB x0.lt
  have y1 := x1.drew.below hB x1.lt
  have bV := bX.drew.trans (hB.mono bX.size)
  have h10 := hA 10 _ _ rfl
  have hrow := h10.2.row
  have hfree := h10.2.rowFree
  have ls : (tileA twT).size = 256 := by rw [tileA_size, twT_length]
  have ls' : (colsV twT).length = 256 := by rw [colsV_length, twT_length]
  have lo := onesB_tile twT
  have H := Lib.hid (And.intro y0 (And.intro y1 (And.intro bV (And.intro h10.1 h10.2))))
  have x0lt := Lib.hid (show w.heap.size + 1 < X.heap.size from x1.lt)
  clear L0 x0 x1 y0 y1 bV h10 hA hD hB bX
  refine sched_act rfl rfl ?_
  go_simp
  repeat (refine sched_pure (v := ?_) rfl rfl ?_ ?_; rotate_left; (focus (intro Y hY; go_simp; try with_reducible rfl)); go_simp; try go_bits)
  refine sched_end ?_
  generalize hU : World.setRow _ _ _ = U
  generalize z 10 = q at *
  generalize z 5 = q5 at *
  obtain ⟨y0, y1, bV, hq, h10⟩ := H.out
  have hlt := y1.lt
  have hsz := bV.size
  have u0 : Has U w.heap.size (.cells #[.int .u8 0, .int .u8 0, .int .u8 0, .int .u8 0] 23 (0, 0)) := by rw [← hU]; exact y0.setRow_other _ (by have := x0lt.out; simp at hq; omega)
  have u1 : Has U (w.heap.size + 1) (.cells #[.int .u8 255, .int .u8 0, .int .u8 0, .int .u8 255] 23 (0, 0)) := by rw [← hU]; exact y1.setRow_other _ (by have := x0lt.out; simp at hq; omega)
  have uq : Has U q (.cells (tileA twT) 25 (0, 0)) := by rw [← hU]; exact h10.setRow _
  have bU : Below w.heap.size w U := by rw [← hU]; exact below_setRow bV (by have := x0lt.out; simp at hq; omega) _
  clear y0 y1 bV hq h10 hU hrow hfree H
  go_wp2
  have L1 : ∀ {w'}, Below U.drew.heap.size U.drew w' → rowAt w' q = some (tileA twT) ∧ (w'.cell? ⟨w.heap.size, 0, none⟩ = some (.int .u8 0) ∧ w'.cell? ⟨w.heap.size, 1, none⟩ = some (.int .u8 0) ∧ w'.cell? ⟨w.heap.size, 2, none⟩ = some (.int .u8 0) ∧ w'.cell? ⟨w.heap.size, 3, none⟩ = some (.int .u8 0)) :=
    fun hB => ⟨(uq.drew.below hB uq.lt).row, (u0.drew.below hB u0.lt).four⟩
  refine wp_region_freshL 8 [(8, true), (9, false)] [6]
    [(fun _ => .agg (tileA twT), none),
     (fun _ => .agg #[.int .u8 0, .int .u8 0, .int .u8 0, .int .u8 0], none),
     (fun _ => .agg (tileA blankT), none),
     (fun _ => .tuple #[.agg #[.int .i64 1, .int .i64 0, .int .i64 2, .int .i64 3], .bool true], none),
     (fun _ => .tuple #[.agg #[.int .i64 1, .int .i64 0, .int .i64 2, .int .i64 3], .bool true], none),
     (fun _ => .agg #[.int .i64 1, .int .i64 0, .int .i64 2, .int .i64 3], none),
     (fun _ => .bool true, none),
     (fun r => .pointer (some ⟨r, 0, none⟩), some (.cells #[.int .i64 0, .int .i64 0, .int .i64 0, .int .i64 0] 33))] (fun _ _ => True) (by kernel_rfl) (by kernel_rfl) rfl ?_
  intro z
  refine freshL_pure rfl rfl rfl (fun w' hB => exec_tile (L1 hB).1 ls rfl) ?_
  go_simp
  refine freshL_pure rfl rfl rfl (fun w' hB => by have l0 := L1 hB; go_simp) ?_
  go_simp
  refine freshL_call rfl rfl rfl (fun w' hB hA => by go_simp) (fun w' hB hA => new_rep (0, 0, 0, 0) w') ?_
  go_simp
  refine freshL_call rfl rfl rfl (fun w' hB hA => by go_simp) (fun w' hB hA => box_tw w') ?_
  go_simp
  refine freshL_pure rfl rfl rfl (fun w' hB => by go_simp) ?_
  go_simp
  refine freshL_pure rfl rfl rfl (fun w' hB => by go_simp) ?_
  go_simp
  refine freshL_late rfl rfl rfl (fun w' => by go_simp) ?_
  go_simp
  refine freshL_new rfl rfl rfl (fun w' => by go_simp) ?_
  go_simp
  refine freshL_end fun V2 hB hA hD => ?_
  have y0 := u0.drew.below hB u0.lt
  have y1 := u1.drew.below hB u1.lt
  have yq := uq.drew.below hB uq.lt
  have bV := bU.drew.trans (hB.mono bU.size)
  have h7 := hA 7 _ _ rfl
  have e7 := h7.2.four
  have f7 := h7.2.free4
  have H := Lib.hid (And.intro y0 (And.intro y1 (And.intro yq (And.intro bV (And.intro h7.1 (And.intro h7.2 uq.lt))))))
  have U1 := Lib.hid u1.lt
  clear L1 y0 y1 yq bV h7 hA hD hB u0 u1 uq bU
  refine sched_act rfl rfl ?_
  go_simp
  repeat (refine sched_pure (v := ?_) rfl rfl ?_ ?_; rotate_left; (focus (intro Y hY; go_simp; try with_reducible rfl)); go_simp; try go_bits)
  refine sched_end ?_
  generalize z 7 = q3 at *
  obtain ⟨y0, y1, yq, bV, hq3, h7, uql⟩ := H.out
  have u1l := U1.out
  simp at hq3
  have z7 := h7.put4 (.int .i64 1) (.int .i64 0) (.int .i64 2) (.int .i64 3)
  have zq := yq.put4_other (r := q3) (.int .i64 1) (.int .i64 0) (.int .i64 2) (.int .i64 3) (by omega)
  have za := y0.put4_other (r := q3) (.int .i64 1) (.int .i64 0) (.int .i64 2) (.int .i64 3) (by omega)
  have zb := y1.put4_other (r := q3) (.int .i64 1) (.int .i64 0) (.int .i64 2) (.int .i64 3) (by omega)
  have bz := below_put4 bV (r := q3) (by omega) (.int .i64 1) (.int .i64 0) (.int .i64 2) (.int .i64 3)
  clear y0 y1 yq bV hq3 h7 uql u1l H U1 e7 f7
  unfold w4 at z7 zq za zb bz
  generalize hU2 : World.setCell _ _ _ = U2 at *
  clear hU2
  have b0 := z7.lt
  have e1 := zq.row
  have e2 := zb.four
  have S1 := Lib.hid (And.intro z7 (And.intro zq (And.intro za (And.intro zb bz))))
  clear z7 zq za zb bz b0
  go_wp2_with (fail)
  refine (turn_tw _).mono ?_
  rintro e w1 ⟨rfl, b1⟩
  go_wp2_with (fail)
  refine (at_tT1 _).mono ?_
  rintro e w2 ⟨rfl, b2⟩
  obtain ⟨z7, zq, za, zb, bz⟩ := S1.out
  have b12 := b1.trans (b2.mono b1.size)
  have k7 := z7.below b12 z7.lt
  have kq := zq.below b12 zq.lt
  have ka := za.below b12 za.lt
  have kb := zb.below b12 zb.lt
  have bk := bz.trans (b12.mono bz.size)
  clear z7 zq za zb bz b1 b2 b12 e1 e2 S1
  have hkb := kb.lt
  have hkq := kq.lt
  have hk7 := k7.lt
  have S2 := Lib.hid (And.intro k7 (And.intro kq (And.intro ka (And.intro kb bk))))
  have e1 := (kq.alloc (.cells #[.int .u8 255, .int .u8 0, .int .u8 0, .int .u8 255] 23)).row
  have e2 := (kb.alloc (.cells #[.int .u8 255, .int .u8 0, .int .u8 0, .int .u8 255] 23)).four
  clear k7 kq ka kb bk
  go_wp2_with (fail)
  refine (shift_tw _).mono ?_
  rintro e w3 ⟨rfl, b3⟩
  go_wp2_with (fail)
  refine (at_tS1 _).mono ?_
  rintro e w4 ⟨rfl, b4⟩
  have b34 := b3.trans (b4.mono b3.size)
  obtain ⟨k7, kq, ka, kb, bk⟩ := S2.out
  have px := (Has.new w2 (.cells #[.int .u8 255, .int .u8 0, .int .u8 0, .int .u8 255] 23 (0, 0))).below b34 (Has.new w2 _).lt
  have j7 := (k7.alloc (.cells #[.int .u8 255, .int .u8 0, .int .u8 0, .int .u8 255] 23)).below b34 (k7.alloc _).lt
  have jq := (kq.alloc (.cells #[.int .u8 255, .int .u8 0, .int .u8 0, .int .u8 255] 23)).below b34 (kq.alloc _).lt
  have ja := (ka.alloc (.cells #[.int .u8 255, .int .u8 0, .int .u8 0, .int .u8 255] 23)).below b34 (ka.alloc _).lt
  have jb := (kb.alloc (.cells #[.int .u8 255, .int .u8 0, .int .u8 0, .int .u8 255] 23)).below b34 (kb.alloc _).lt
  have bj := (bk.alloc bk.size (.cells #[.int .u8 255, .int .u8 0, .int .u8 0, .int .u8 255] 23)).trans (b34.mono (bk.alloc bk.size _).size)
  obtain ⟨x2, hx2⟩ : ∃ x2, w2.heap.size = x2 := ⟨_, rfl⟩
  rw [hx2] at px ⊢
  clear k7 kq ka kb bk b3 b4 b34 e1 e2 S2 hkb hkq hk7 hx2
  have hjq := jq.lt
  have e1 := (jq.alloc (.cells #[.int .u8 255, .int .u8 0, .int .u8 0, .int .u8 255] 23)).row
  have S3 := Lib.hid (And.intro j7 (And.intro jq (And.intro ja (And.intro jb (And.intro px bj)))))
  clear j7 jq ja jb px bj
  go_wp2_with (fail)
  refine (at_no _).mono ?_
  rintro e w5 ⟨rfl, b5⟩
  obtain ⟨k7, kq, ka, kb, kx, bk⟩ := S3.out
  have pg := (Has.new w4 (.cells #[.int .u8 255, .int .u8 0, .int .u8 0, .int .u8 255] 23 (0, 0))).below b5 (Has.new w4 _).lt
  have j7 := (k7.alloc (.cells #[.int .u8 255, .int .u8 0, .int .u8 0, .int .u8 255] 23)).below b5 (k7.alloc _).lt
  have jq := (kq.alloc (.cells #[.int .u8 255, .int .u8 0, .int .u8 0, .int .u8 255] 23)).below b5 (kq.alloc _).lt
  have ja := (ka.alloc (.cells #[.int .u8 255, .int .u8 0, .int .u8 0, .int .u8 255] 23)).below b5 (ka.alloc _).lt
  have jb := (kb.alloc (.cells #[.int .u8 255, .int .u8 0, .int .u8 0, .int .u8 255] 23)).below b5 (kb.alloc _).lt
  have jx := (kx.alloc (.cells #[.int .u8 255, .int .u8 0, .int .u8 0, .int .u8 255] 23)).below b5 (kx.alloc _).lt
  have bj := (bk.alloc bk.size (.cells #[.int .u8 255, .int .u8 0, .int .u8 0, .int .u8 255] 23)).trans (b5.mono (bk.alloc bk.size _).size)
  obtain ⟨x4, hx4⟩ : ∃ x4, w4.heap.size = x4 := ⟨_, rfl⟩
  rw [hx4] at pg ⊢
  clear k7 kq ka kb kx bk b5 e1 S3 hjq hx4
  have S4 := Lib.hid (And.intro (show TwS w.heap.size q q3 x2 x4 w5 from ⟨ja, jb, jq, j7, jx, pg⟩) bj)
  clear j7 jq ja jb jx pg bj
  go_wp2
  generalize hW : World.alloc _ _ = W6
  have h6 : TwS w.heap.size q q3 x2 x4 W6 := by rw [← hW]; exact (S4.out.1).below ((Below.refl _ _).alloc (Nat.le_refl _) _)
  have b6 : Below w.heap.size w W6 := by rw [← hW]; exact S4.out.2.alloc S4.out.2.size _
  clear hW S4
  refine wp_region_tree (.pure 0 (.pure 1 (.pure 2 (.pure 3 (.pure 4 (.pure 5 (.pure 6 (.pure 7 (.pure 8 (.pure 9 (.pure 10 (.pure 11 (.pure 12 (.pure 13 (.pure 14 (.pure 15 (.act 16 (.pure 17 (.pure 18 (.pure 19 (.pure 20 (.pure 22 (.pure 23 (.two 21 (.act 24 (.act 25 (.pure 26 (.pure 27 (.pure 28 (.pure 29 (.act 30 (.pure 31 (.pure 32 (.pure 33 (.pure 34 (.pure 35 (.pure 36 (.pure 37 (.pure 38 (.pure 39 (.pure 40 (.pure 41 (.pure 42 (.pure 43 (.pure 44 (.pure 45 (.pure 46 (.pure 47 (.pure 48 (.pure 49 (.pure 50 (.pure 51 .done)))))))))))))))))))))))))))) 24 (.act 21 (.act 25 (.pure 26 (.pure 27 (.pure 28 (.pure 29 (.act 30 (.pure 31 (.pure 32 (.pure 33 (.pure 34 (.pure 35 (.pure 36 (.pure 37 (.pure 38 (.pure 39 (.pure 40 (.pure 41 (.pure 42 (.pure 43 (.pure 44 (.pure 45 (.pure 46 (.pure 47 (.pure 48 (.pure 49 (.pure 50 (.pure 51 .done)))))))))))))))))))))))))))))))))))))))))))))))))))) (TwS w.heap.size q q3 x2 x4) (by kernel_rfl) (by kernel_rfl) (by kernel_rfl) h6.drew ?_
  have B6 := Lib.hid b6.drew
  have H6 := Lib.hid h6.drew
  clear b6 h6
  repeat (first | (refine tree_idle rfl rfl ?_; go_simp) | (refine tree_pure (v := .agg (tileA twT)) rfl rfl (fun Y hY => exec_tile hY.tile ls rfl) ?_; go_simp) | (refine tree_pure (v := ?_) rfl rfl ?_ ?_; rotate_left; (focus (intro Y hY; have y0 := hY.cells; go_simp; try with_reducible rfl)); go_simp; try go_bits))
  refine tree_act rfl rfl ?_
  go_simp
  refine (runs_tw _).mono ?_
  rintro e w7 ⟨rfl, b7⟩
  have H7 := Lib.hid (H6.out.below b7)
  have B7 := Lib.hid (B6.out.trans (b7.mono B6.out.size))
  refine ⟨H7.out, ?_⟩
  clear b7
  repeat (first | (refine tree_idle rfl rfl ?_; go_simp) | (refine tree_pure (v := .agg (tileA twT)) rfl rfl (fun Y hY => exec_tile hY.tile ls rfl) ?_; go_simp) | (refine tree_pure (v := ?_) rfl rfl ?_ ?_; rotate_left; (focus (intro Y hY; have y0 := hY.cells; go_simp; try with_reducible rfl)); go_simp; try go_bits))
  refine tree_two rfl rfl rfl rfl ?_ ?_
  · go_simp
    refine (colors_tw _).mono ?_
    rintro e w8 ⟨ad, cap, rfl, hrow, b8⟩
    have H8 := Lib.hid (H7.out.below b8)
    have B8 := Lib.hid (B7.out.trans (b8.mono B7.out.size))
    have R8 := Lib.hid hrow
    refine ⟨H8.out, ?_⟩
    clear b8 hrow
    refine tree_act rfl rfl ?_
    go_simp
    generalize hW9 : World.alloc _ _ = W9
    have H9 := Lib.hid (show TwS w.heap.size q q3 x2 x4 W9 from hW9 ▸ H8.out.below ((Below.refl _ _).alloc (Nat.le_refl _) _))
    have B9 := Lib.hid (show Below w.heap.size w W9 from hW9 ▸ B8.out.alloc B8.out.size _)
    have R9 := Lib.hid (show ColRow W9 ad [(0, 0, 0, 0), (255, 0, 0, 255)] from hW9 ▸ R8.out.below ((Below.refl _ _).alloc (Nat.le_refl _) _))
    have N9 := Lib.hid (show Has W9 w8.heap.size (.cells #[.int .u8 0, .int .u8 0, .int .u8 0, .int .u8 0, .int .u8 255, .int .u8 0, .int .u8 0, .int .u8 255] 23) from hW9 ▸ Has.new _ _)
    clear hW9
    refine ⟨H9.out, ?_⟩
    refine tree_act rfl rfl ?_
    go_simp
    refine (eq_tw _ _ _ _ R9.out N9.out).mono ?_
    rintro e wa ⟨rfl, ba⟩
    have Ha := Lib.hid (H9.out.below ba)
    have Ba := Lib.hid (B9.out.trans (ba.mono B9.out.size))
    refine ⟨Ha.out, ?_⟩
    clear ba
    repeat (first | (refine tree_idle rfl rfl ?_; go_simp) | (refine tree_pure (v := .agg (tileA twT)) rfl rfl (fun Y hY => exec_tile hY.tile ls rfl) ?_; go_simp) | (refine tree_pure (v := ?_) rfl rfl ?_ ?_; rotate_left; (focus (intro Y hY; have y0 := hY.cells; go_simp; try with_reducible rfl)); go_simp; try go_bits))
    refine tree_act rfl rfl ?_
    go_simp
    refine (count_tw _).mono ?_
    rintro e wb ⟨rfl, bb⟩
    have Hb := Lib.hid (Ha.out.below bb)
    have Bb := Lib.hid (Ba.out.trans (bb.mono Ba.out.size))
    refine ⟨Hb.out, ?_⟩
    clear bb
    repeat (first | (refine tree_idle rfl rfl ?_; go_simp) | (refine tree_pure (v := .agg (tileA twT)) rfl rfl (fun Y hY => exec_tile hY.tile ls rfl) ?_; go_simp) | (refine tree_pure (v := ?_) rfl rfl ?_ ?_; rotate_left; (focus (intro Y hY; have y0 := hY.cells; go_simp; try with_reducible rfl)); go_simp; try go_bits))
    refine tree_end ?_
    go_wp2
    go_ret
    exact ⟨rfl, Bb.out⟩
  · go_simp
    generalize hW8 : World.alloc _ _ = W8
    have H8 := Lib.hid (show TwS w.heap.size q q3 x2 x4 W8 from hW8 ▸ H7.out.below ((Below.refl _ _).alloc (Nat.le_refl _) _))
    have B8 := Lib.hid (show Below w.heap.size w W8 from hW8 ▸ B7.out.alloc B7.out.size _)
    have N8 := Lib.hid (show Has W8 w7.heap.size (.cells #[.int .u8 0, .int .u8 0, .int .u8 0, .int .u8 0, .int .u8 255, .int .u8 0, .int .u8 0, .int .u8 255] 23) from hW8 ▸ Has.new _ _)
    clear hW8
    refine ⟨H8.out, ?_⟩
    refine tree_act rfl rfl ?_
    go_simp
    refine (colors_tw _).mono ?_
    rintro e w9 ⟨ad, cap, rfl, hrow, b9⟩
    have H9 := Lib.hid (H8.out.below b9)
    have B9 := Lib.hid (B8.out.trans (b9.mono B8.out.size))
    have R9 := Lib.hid hrow
    have N9 := Lib.hid (N8.out.below b9 N8.out.lt)
    refine ⟨H9.out, ?_⟩
    clear b9 hrow
    refine tree_act rfl rfl ?_
    go_simp
    refine (eq_tw _ _ _ _ R9.out N9.out).mono ?_
    rintro e wa ⟨rfl, ba⟩
    have Ha := Lib.hid (H9.out.below ba)
    have Ba := Lib.hid (B9.out.trans (ba.mono B9.out.size))
    refine ⟨Ha.out, ?_⟩
    clear ba
    repeat (first | (refine tree_idle rfl rfl ?_; go_simp) | (refine tree_pure (v := .agg (tileA twT)) rfl rfl (fun Y hY => exec_tile hY.tile ls rfl) ?_; go_simp) | (refine tree_pure (v := ?_) rfl rfl ?_ ?_; rotate_left; (focus (intro Y hY; have y0 := hY.cells; go_simp; try with_reducible rfl)); go_simp; try go_bits))
    refine tree_act rfl rfl ?_
    go_simp
    refine (count_tw _).mono ?_
    rintro e wb ⟨rfl, bb⟩
    have Hb := Lib.hid (Ha.out.below bb)
    have Bb := Lib.hid (Ba.out.trans (bb.mono Ba.out.size))
    refine ⟨Hb.out, ?_⟩
    clear bb
    repeat (first | (refine tree_idle rfl rfl ?_; go_simp) | (refine tree_pure (v := .agg (tileA twT)) rfl rfl (fun Y hY => exec_tile hY.tile ls rfl) ?_; go_simp) | (refine tree_pure (v := ?_) rfl rfl ?_ ?_; rotate_left; (focus (intro Y hY; have y0 := hY.cells; go_simp; try with_reducible rfl)); go_simp; try go_bits))
    refine tree_end ?_
    go_wp2
    go_ret
    exact ⟨rfl, Bb.out⟩
end Go.Proofs.Ytedckelfdkfkoaa
