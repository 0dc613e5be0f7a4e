/- Walks of the document: how many pixels have a colour, how many runs there are. -/
import Derived.Test.YtedckelfdkfkoaaG
import Derived.Test.YtedckelfdkfkoaaI
import Derived.Deep.DrawnRows
namespace Go.Proofs.Ytedckelfdkfkoaa
open Go.RowKit Go.Shelf
attribute [local go_sem] Oper.semAt_some
attribute [local go_sem 2000] run_col run_tile
attribute [local go_sem ↓] zero25 build25 build176z build176 load25 store25
attribute [local go_sem] rowAt_alloc rowFree_alloc rowAt_drew rowFree_drew rowAt_alloc_map zeroA_size zc176 zeroA_ones blkOf_ptr aggOf_agg

theorem drop_atT {T : List Col} {k : Nat} (h : k < T.length) : T.drop k = atT T k :: T.drop (k + 1) := by
  rw [List.drop_eq_getElem_cons h]
  congr 1
  have := atT_eq h
  rw [List.getElem?_eq_getElem h] at this
  exact Option.some.inj this

set_option maxRecDepth 100000 in
set_option maxHeartbeats 1000000 in
theorem rcount_any (T : List Col) (c : Col) (w : World) (hT : T.length = 64) :
    Calls Try.prog 31 #[.agg (tileA T), colV c] w fun e w' => e = .returned (.int .i64 (manyN countF c T)) ∧ Below w.heap.size w w' := by
  have hs : (tileA T).size = 256 := by rw [tileA_size, hT]
  have nl := manyN_le countF c T
  rw [hT] at nl
  obtain ⟨R, hR⟩ : ∃ R, manyN countF c T = R := ⟨_, rfl⟩
  rw [hR] at nl ⊢
  obtain ⟨c0, c1, c2, c3⟩ := c
  have A0 := Lib.hid (And.intro hT hR)
  clear hT hR
  go_enter Try.func31, Try.ntmps31
  go_wp2
  generalize hX : World.alloc _ _ = X
  have x1 : Has X (w.heap.size + 1) (.cells (colC (c0, c1, c2, c3)) 23 (0, 0)) := by rw [← hX]; exact Has.new' (by simp)
  have b0 : Below w.heap.size w X := by rw [← hX]; exact ((Below.refl _ _).alloc (by simp) _).alloc (by simp) _
  have X0 := Lib.hid (And.intro x1 b0)
  clear hX x1 b0
  go_loopg [5, 9] 64 (fun n v i wr => ∃ (k acc : Nat), k ≤ 64 ∧ n = 64 - k ∧ i = .int .i64 k ∧ v = .int .i64 acc ∧ acc + manyN countF (c0, c1, c2, c3) (T.drop k) = R ∧ acc ≤ k ∧ Below X.heap.size X wr)
  case atStart => exact ⟨0, 0, by omega, by omega, rfl, rfl, by rw [Nat.zero_add]; exact A0.out.2, by omega, Below.refl _ _⟩
  case round =>
    obtain ⟨k, acc, hk, hn, rfl, rfl, hR, ha, hB⟩ := hrel
    by_cases hlt : k < 64
    · have hi := fun w => idx25 T k A0.out.1 hlt w
      rw [drop_atT (by rw [A0.out.1]; exact hlt)] at hR
      generalize atT T k = c at *
      obtain ⟨d0, d1, d2, d3⟩ := c
      have q := ((X0.out.1.below hB X0.out.1.lt).alloc (.cells (colC (d0, d1, d2, d3)) 23)).four
      have S := Lib.hid (And.intro hn (And.intro hR hB))
      clear hn hR hB
      cases hcb : colB d0 d1 d2 d3 c0 c1 c2 c3 with
      | true =>
        have HB := Lib.hid hcb
        go_wp2
        obtain ⟨hn, hR, hB⟩ := S.out
        have hf : (countF (c0, c1, c2, c3) (d0, d1, d2, d3)).1 = true := by show decide _ = _; rw [← colB_eq']; exact HB.out
        unfold manyN at hR
        rw [hf] at hR
        simp only [if_true] at hR
        go_roundg (64 - (k + 1))
        case measure => omega
        case rel => exact ⟨k + 1, acc + 1, hlt, rfl, by go_num, by go_num, by rw [Nat.add_assoc]; exact hR, by omega, hB.alloc hB.size _⟩
      | false =>
        have HB := Lib.hid hcb
        go_wp2
        obtain ⟨hn, hR, hB⟩ := S.out
        have hf : (countF (c0, c1, c2, c3) (d0, d1, d2, d3)).1 = false := by show decide _ = _; rw [← colB_eq']; exact HB.out
        unfold manyN at hR
        rw [hf] at hR
        simp only [Bool.false_eq_true, if_false] at hR
        go_roundg (64 - (k + 1))
        case measure => omega
        case rel => exact ⟨k + 1, acc, hlt, rfl, by go_num, rfl, by rw [Nat.zero_add] at hR; exact hR, by omega, hB.alloc hB.size _⟩
    · obtain rfl : k = 64 := by omega
      have hd : T.drop 64 = [] := List.drop_eq_nil_of_le (by rw [A0.out.1]; exact Nat.le_refl _)
      rw [hd] at hR
      have e : acc = R := hR
      have HB := Lib.hid (X0.out.2.trans (hB.mono X0.out.2.size))
      subst e
      clear hR
      go_wp2
      go_ret
      exact ⟨rfl, HB.out⟩

/-- two neighbours in a tile's block -/
def Pix2 (n k : Nat) (c d : Col) (Y : World) : Prop := PixAt Y n k c ∧ PixAt Y n (k + 1) d
set_option maxRecDepth 100000 in
set_option maxHeartbeats 1000000 in
theorem rruns_any (T : List Col) (w : World) (hT : T.length = 64) :
    Calls Try.prog 29 #[.agg (tileA T)] w fun e w' => e = .returned (.int .i64 (1 + manyN runsF (atT T 0) T : Nat)) ∧ Below w.heap.size w w' := by
  have hs : (tileA T).size = 256 := by rw [tileA_size, hT]
  have nl := manyN_le runsF (atT T 0) T
  rw [hT] at nl
  obtain ⟨R, hR⟩ : ∃ R, manyN runsF (atT T 0) T = R := ⟨_, rfl⟩
  rw [hR] at nl ⊢
  have h0 : manyN runsF (atT T 0) (T.drop 1) = R := by
    obtain ⟨c, l, rfl⟩ : ∃ c l, T = c :: l := by cases T with | nil => simp at hT | cons c l => exact ⟨c, l, rfl⟩
    show manyN runsF c l = R
    rw [← hR]
    show _ = manyN runsF c (c :: l)
    rw [manyN]
    simp [runsF]
  have A0 := Lib.hid (And.intro hT h0)
  clear hT hR h0
  go_enter Try.func29, Try.ntmps29
  go_wp2
  generalize hX : World.alloc _ _ = X
  have x1 : Has X w.heap.size (.cells (tileA T) 25 (0, 0)) := by rw [← hX]; exact Has.new _ _
  have b0 : Below w.heap.size w X := by rw [← hX]; exact ((Below.refl _ _).alloc (by simp) _)
  have X0 := Lib.hid (And.intro x1 b0)
  clear hX x1 b0
  go_loopg [3, 4] 63 (fun n v i wr => ∃ (k acc : Nat), k + 1 ≤ 64 ∧ n = 64 - (k + 1) ∧ i = .int .i64 (k + 1 : Nat) ∧ v = .int .i64 (acc + 1 : Nat) ∧ acc + manyN runsF (atT T k) (T.drop (k + 1)) = R ∧ acc ≤ k ∧ Below X.heap.size X wr)
  case atStart => exact ⟨0, 0, by omega, by omega, rfl, rfl, by rw [Nat.zero_add]; exact A0.out.2, by omega, Below.refl _ _⟩
  case round =>
    obtain ⟨k, acc, hk, hn, rfl, rfl, hR, ha, hB⟩ := hrel
    by_cases hlt : k + 1 < 64
    · rw [drop_atT (by rw [A0.out.1]; exact hlt)] at hR
      have p0 := (X0.out.1.below hB X0.out.1.lt).pix (k := k) (by rw [A0.out.1]; omega)
      have p1 := (X0.out.1.below hB X0.out.1.lt).pix (k := k + 1) (by rw [A0.out.1]; omega)
      obtain ⟨d, hd⟩ : ∃ d, atT T (k + 1) = d := ⟨_, rfl⟩
      rw [hd] at hR p1
      generalize atT T k = c at *
      obtain ⟨c0, c1, c2, c3⟩ := c
      obtain ⟨d0, d1, d2, d3⟩ := d
      have pp : Pix2 w.heap.size k (c0, c1, c2, c3) (d0, d1, d2, d3) wr := ⟨p0, p1⟩
      clear p0 p1
      have S := Lib.hid (And.intro hn (And.intro hR (And.intro hB hd)))
      clear hn hR hB hd
      cases hcb : colB d0 d1 d2 d3 c0 c1 c2 c3 with
      | true =>
        have HB := Lib.hid hcb
        go_wp2
        refine wp_region_sched [(0, false), (1, false), (2, false), (3, false), (4, false), (5, false), (6, false), (7, false)] (Pix2 w.heap.size k (c0, c1, c2, c3) (d0, d1, d2, d3)) (by kernel_rfl) (by kernel_rfl) pp ?_
        repeat (refine sched_pure (v := ?_) rfl rfl ?_ ?_; rotate_left; (focus (intro Y hY; have y0 := hY.1; have y1 := hY.2; unfold PixAt at y0 y1; simp only at y0 y1; have nk : (0 : Int) ≤ (k : Int) + 1 := (by omega); have nk2 : (k : Int) < 64 := (by omega); go_simp; try with_reducible rfl)); go_simp; try go_bits)
        refine sched_end ?_
        go_wp2
        obtain ⟨hn, hR, hB, hd⟩ := S.out
        have hf : (runsF (c0, c1, c2, c3) (d0, d1, d2, d3)).1 = false := by show (!decide _) = _; rw [← colB_eq', HB.out]; rfl
        unfold manyN at hR
        rw [hf] at hR
        simp only [Bool.false_eq_true, if_false] at hR
        go_roundg (63 - (k + 1))
        case measure => omega
        case rel => exact ⟨k + 1, acc, hlt, by omega, by go_num, rfl, by rw [Nat.zero_add] at hR; rw [hd]; exact hR, by omega, hB.drew⟩
      | false =>
        have HB := Lib.hid hcb
        go_wp2
        refine wp_region_sched [(0, false), (1, false), (2, false), (3, false), (4, false), (5, false), (6, false), (7, false)] (Pix2 w.heap.size k (c0, c1, c2, c3) (d0, d1, d2, d3)) (by kernel_rfl) (by kernel_rfl) pp ?_
        repeat (refine sched_pure (v := ?_) rfl rfl ?_ ?_; rotate_left; (focus (intro Y hY; have y0 := hY.1; have y1 := hY.2; unfold PixAt at y0 y1; simp only at y0 y1; have nk : (0 : Int) ≤ (k : Int) + 1 := (by omega); have nk2 : (k : Int) < 64 := (by omega); go_simp; try with_reducible rfl)); go_simp; try go_bits)
        refine sched_end ?_
        go_wp2
        obtain ⟨hn, hR, hB, hd⟩ := S.out
        have hf : (runsF (c0, c1, c2, c3) (d0, d1, d2, d3)).1 = true := by show (!decide _) = _; rw [← colB_eq', HB.out]; rfl
        unfold manyN at hR
        rw [hf] at hR
        simp only [if_true] at hR
        go_roundg (63 - (k + 1))
        case measure => omega
        case rel => exact ⟨k + 1, acc + 1, hlt, by omega, by go_num, by go_num, by rw [Nat.add_assoc, hd]; exact hR, by omega, hB.drew⟩
    · obtain rfl : k = 63 := by omega
      have hd : T.drop (63 + 1) = [] := List.drop_eq_nil_of_le (by rw [A0.out.1]; exact Nat.le_refl _)
      rw [hd] at hR
      have e : acc = R := hR
      have HB := Lib.hid (X0.out.2.trans (hB.mono X0.out.2.size))
      subst e
      clear hR
      go_wp2
      go_ret
      exact ⟨by go_num, HB.out⟩
end Go.Proofs.Ytedckelfdkfkoaa
