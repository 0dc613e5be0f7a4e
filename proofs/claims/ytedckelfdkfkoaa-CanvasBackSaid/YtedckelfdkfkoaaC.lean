/- Walks: a tile of one colour; a pixel of a tile. -/
import Derived.Test.YtedckelfdkfkoaaB
namespace Go.Proofs.Ytedckelfdkfkoaa
open Go.RowKit Go.Shelf
attribute [local go_sem] Oper.semAt_some
attribute [local go_sem] round_fn round_depth wide_fn wide_depth
attribute [local go_sem 2000] run_col run_tile
attribute [local go_sem ↓] zero25 build25 build176z build176 load25 store25
attribute [local go_sem] rowAt_alloc rowFree_alloc rowAt_drew rowFree_drew zeroA_size zc176 zeroA_ones blkOf_ptr aggOf_agg

/-- a tile into which colours are put -/
def foldT (f : Int × Int → (Int × Int) × Col) (T : List Col) (pre : List (Int × Int)) : List Col := pre.foldl (fun T p => putT T (f p).1.1 (f p).1.2 (f p).2) T
theorem foldT_length (f : Int × Int → (Int × Int) × Col) (pre : List (Int × Int)) (T : List Col) : (foldT f T pre).length = T.length := by
  induction pre generalizing T with
  | nil => rfl
  | cons p pre ih => show (foldT f _ pre).length = _; rw [ih, putT_length]
theorem foldT_snoc (f : Int × Int → (Int × Int) × Col) (pre : List (Int × Int)) (T : List Col) (x : Int × Int) : foldT f T (pre ++ [x]) = putT (foldT f T pre) (f x).1.1 (f x).1.2 (f x).2 := by
  unfold foldT; rw [List.foldl_append]; rfl

set_option maxRecDepth 100000 in
set_option maxHeartbeats 1000000 in
theorem new_any (c : Col) (w : World) : Calls Try.prog 46 #[colV c] w fun e w' => e = .returned (.agg (tileA (foldT (fun p => (p, c)) blankT placesL))) ∧ Below w.heap.size w w' := by
  obtain ⟨c0, c1, c2, c3⟩ := c
  refine calls_of_wp_marks Try.func46 rfl ?_
  simp only [Try.ntmps46, List.size_toArray, List.length_cons, List.length_nil, Nat.reduceAdd, Nat.reduceSub, Array.replicate_succ, Array.replicate_zero, List.push_toArray, List.append_toArray, List.nil_append, List.cons_append]
  go_wp2_with (go_at_call 130; refine (each_any _).mono ?_; rintro e w' ⟨rfl, rfl⟩)
  generalize hW0 : World.alloc _ _ = W0
  have sz : W0.heap.size = w.heap.size + 4 := by rw [← hW0]; simp
  have x0 : Has W0 w.heap.size (.cells #[.int .u8 c0, .int .u8 c1, .int .u8 c2, .int .u8 c3] 23 (0, 0)) := by rw [← hW0]; exact (((Has.new' (by simp)).alloc _).alloc _).alloc _
  have x1 : Has W0 (w.heap.size + 1) (.cells zeroA 25 (0, 0)) := by rw [← hW0]; exact ((Has.new' (by simp)).alloc _).alloc _
  have x2 : Has W0 (w.heap.size + 1 + 1) (.cells zeroA 176 (0, 0)) := by rw [← hW0]; exact (Has.new' (by simp)).alloc _
  have x3 : Has W0 (w.heap.size + 1 + 1 + 1) (.cells #[.pointer (some ⟨w.heap.size + 1 + 1, 0, none⟩)] 174 (0, 0)) := by rw [← hW0]; exact Has.new' (by simp)
  have b0 : Below w.heap.size w W0 := by rw [← hW0]; repeat (first | exact Below.refl _ _ | refine Below.alloc ?_ (by simp <;> omega) _)
  clear hW0
  refine wp_range rfl (enters_of Try.func195 (by kernel_rfl) rfl) (each1_iter w.heap.size W0) (by omega) (Below.refl _ _) (fun _ => rfl)
    (fun pre W => Grew [w.heap.size + 1 + 1] W0 W ∧ Has W (w.heap.size + 1 + 1) (.cells (tileA (foldT (fun p => (p, (c0, c1, c2, c3))) blankT pre)) 176 (0, 0))) (OwnFrom.and own_grew (has_own _ _ _ _ _)) ⟨Grew.refl _ _, x2⟩
    ?round ?done
  case round =>
    intro l pre x W _ hpre
    gi_wp2
    refine ⟨rfl, ?_⟩
    rintro W ⟨hG, hF⟩
    have y0 := (x0.grew hG (by simp <;> omega)).four
    have y3 := (x3.grew hG (by simp <;> omega)).cell 0
    have H := Lib.hid (And.intro hG (And.intro hF (And.intro sz (And.intro b0 hpre))))
    clear hG hF sz b0 hpre x0 x1 x2 x3
    gi_wp2_with (gi_at_call 132; refine inRd (put_any _ _ _ _ (c0, c1, c2, c3) _ (by rw [foldT_length]; exact blankT_length) H.out.2.1) ?_; rintro e w' ⟨rfl, h1, h2⟩)
    obtain ⟨hG, hF, sz, b0, hpre⟩ := H.out
    exact round_end hG (by omega) (by simp <;> omega) (by simp <;> omega) h2 (by rw [foldT_snoc]; exact h1)
  case done =>
    intro D W hD ⟨hG, hF⟩ hK
    have y3 : W.cell? ⟨w.heap.size + 1 + 1 + 1, 0, none⟩ = some (.pointer (some ⟨w.heap.size + 1 + 1, 0, none⟩)) := (x3.grew hG (by simp <;> omega)).cell 0
    have e1 := hF.row
    have e2 := (x1.grew hG (by simp <;> omega)).row
    have e3 := (x1.grew hG (by simp <;> omega)).rowFree
    have l1 : (tileA (foldT (fun p => (p, (c0, c1, c2, c3))) blankT placesL)).size = 256 := by rw [tileA_size, foldT_length, blankT_length]
    have l2 := onesB_tile (foldT (fun p => (p, (c0, c1, c2, c3))) blankT placesL)
    generalize hA : tileA (foldT (fun p => (p, (c0, c1, c2, c3))) blankT placesL) = A at *
    have HA := Lib.hid hA
    clear hA
    go_wp2
    have z1 := (x1.grew hG (by simp <;> omega)).setRow A
    have kD := hK.setRow_other A (b := w.heap.size + 1) (by omega)
    have bW : Below w.heap.size w (W.setRow (w.heap.size + 1) A) := below_setRow (b0.trans (hG.below (by omega) (by simp; omega))) (by omega) A
    have zD := z1.putOther (l := D) (.deferred none) (by omega)
    have hr := res25 (fn := Try.f46) (p := 2) Try.results46
    refine leaves_mark kD (leaves_end (hr _ _ (w.heap.size + 1) 25 A (0, 0) ?_ zD l1) ⟨by rw [← HA.out], bW.trans (below_mark kD (by omega))⟩)
    rfl
end Go.Proofs.Ytedckelfdkfkoaa
