/- Walks: the least box of what differs. -/
import Derived.Test.YtedckelfdkfkoaaG
namespace Go.Proofs.Ytedckelfdkfkoaa
open Go.RowKit Go.Shelf
attribute [local go_sem] Oper.semAt_some
attribute [local go_sem] round_fn round_depth wide_fn wide_depth

theorem exec_max (e : Operand → Value) (x y : Operand) (dst : Option Tmp) (t : TypeId) (pos : String) (af : Array Edge) (g : Option (Nat × Bool)) (w : World) (hx : e x = .int .i64 (intOf (e x))) (hy : e y = .int .i64 (intOf (e y))) :
    (execOp e ⟨dst, .call { callee := .builtin .max, args := #[x, y], argTypes := #[3, 3] }, t, pos, af, g⟩).run Try.prog w = .ok (.value (.int .i64 (max (intOf (e x)) (intOf (e y))))) w := by
  have h : ∀ a b : Int, (if a < b then b else a) = max a b := by intro a b; split <;> omega
  generalize intOf (e x) = a at *
  generalize intOf (e y) = b at *
  simp [go_sem, hx, hy]
  rw [h]
theorem exec_min (e : Operand → Value) (x y : Operand) (dst : Option Tmp) (t : TypeId) (pos : String) (af : Array Edge) (g : Option (Nat × Bool)) (w : World) (hx : e x = .int .i64 (intOf (e x))) (hy : e y = .int .i64 (intOf (e y))) :
    (execOp e ⟨dst, .call { callee := .builtin .min, args := #[x, y], argTypes := #[3, 3] }, t, pos, af, g⟩).run Try.prog w = .ok (.value (.int .i64 (min (intOf (e x)) (intOf (e y))))) w := by
  have h : ∀ a b : Int, (if b < a then b else a) = min a b := by intro a b; split <;> omega
  generalize intOf (e x) = a at *
  generalize intOf (e y) = b at *
  simp [go_sem, hx, hy]
  rw [h]
attribute [local go_sem 2000] run_col run_tile
attribute [local go_sem ↓] zero25 build25 build176z build176 load25 store25 exec_max exec_min
attribute [local go_sem] rowAt_alloc rowFree_alloc rowAt_drew rowFree_drew zeroA_size zc176 zeroA_ones blkOf_ptr aggOf_agg

theorem intOf_int (k : IntKind) (n : Int) : intOf (.int k n) = n := rfl
attribute [local go_sem] intOf_int
/-- a box with one place more -/
def boxStep (T T' : List Col) (b : Col) (p : Int × Int) : Col := if atT T (p.2 * 8 + p.1).toNat = atT T' (p.2 * 8 + p.1).toNat then b else (min b.1 p.1, min b.2.1 p.2, max b.2.2.1 p.1, max b.2.2.2 p.2)
abbrev box4 (b : Col) : Array Value := #[.int .i64 b.1, .int .i64 b.2.1, .int .i64 b.2.2.1, .int .i64 b.2.2.2]
def boxV (T T' : List Col) : Col × Bool := if T = T' then ((0, 0, 0, 0), false) else (placesL.foldl (boxStep T T') (8, 8, -1, -1), true)
abbrev boxR (r : Col × Bool) : Value := .tuple #[.agg (box4 r.1), .bool r.2]

set_option maxRecDepth 100000 in
set_option maxHeartbeats 2000000 in
theorem box_any (T T' : List Col) (w : World) (hT : T.length = 64) (hT' : T'.length = 64) :
    Calls Try.prog 32 #[.agg (tileA T), .agg (tileA T')] w fun e w' => e = .returned (boxR (boxV T T')) ∧ Below w.heap.size w w' := by
  have hs : (tileA T).size = 256 := by rw [tileA_size, hT]
  have hs' : (tileA T').size = 256 := by rw [tileA_size, hT']
  by_cases he : T = T'
  · have e : boxV T T' = ((0, 0, 0, 0), false) := by unfold boxV; rw [if_pos he]
    rw [e]
    have hd : decide (T = T') = true := by simpa using he
    clear e he
    go_enter Try.func32, Try.ntmps32
    go_wp2
    exact bodyPost_ret (v := boxR ((0, 0, 0, 0), false)) (by simp [results, Try.f32, go_sem]) rfl ⟨rfl, (((Below.refl _ _).alloc (Nat.le_refl _) _).alloc (by simp) _).alloc (by simp <;> omega) _⟩
  · have e : boxV T T' = (placesL.foldl (boxStep T T') (8, 8, -1, -1), true) := by unfold boxV; rw [if_neg he]
    rw [e]
    have hd : decide (T = T') = false := by simpa using he
    have HT := Lib.hid (And.intro hT hT')
    clear e he
    refine calls_of_wp_marks Try.func32 rfl ?_
    simp only [Try.ntmps32, List.size_toArray, List.length_cons, List.length_nil, Nat.reduceAdd, Nat.reduceSub, Array.replicate_succ, Array.replicate_zero, List.push_toArray, List.append_toArray, List.nil_append, List.cons_append]
    go_wp2_with (go_at_call 130; refine (each_any _).mono ?_; rintro e w' ⟨rfl, rfl⟩)
    clear hd
    generalize hX : World.alloc _ _ = X
    have x0 : Has X w.heap.size (.cells (tileA T) 25 (0, 0)) := by rw [← hX]; exact (((Has.new' (by simp)).alloc _).alloc _).alloc _
    have x1 : Has X (w.heap.size + 1) (.cells (tileA T') 25 (0, 0)) := by rw [← hX]; exact ((Has.new' (by simp)).alloc _).alloc _
    have x2 : Has X (w.heap.size + 1 + 1) (.cells #[.int .i64 0, .int .i64 0, .int .i64 0, .int .i64 0] 33 (0, 0)) := by rw [← hX]; exact (Has.new' (by simp)).alloc _
    have x3 : Has X (w.heap.size + 1 + 1 + 1) (.cells (box4 (8, 8, -1, -1)) 33 (0, 0)) := by rw [← hX]; exact Has.new' (by simp)
    have b0 : Below w.heap.size w X := by rw [← hX]; repeat (first | exact Below.refl _ _ | refine Below.alloc ?_ (by simp <;> omega) _)
    have sz : X.heap.size = w.heap.size + 4 := by rw [← hX]; simp
    clear hX
    refine wp_range rfl (enters_of Try.func195 (by kernel_rfl) rfl) (each1_iter w.heap.size X) (by omega) (Below.refl _ _) (fun _ => rfl)
      (fun pre W => Grew [w.heap.size + 1 + 1 + 1] X W ∧ Has W (w.heap.size + 1 + 1 + 1) (.cells (box4 (pre.foldl (boxStep T T') (8, 8, -1, -1))) 33 (0, 0))) (OwnFrom.and own_grew (has_own _ _ _ _ _)) ⟨Grew.refl _ _, x3⟩
      ?round ?done
    case round =>
      intro l pre x W _ hpre
      gi_wp2
      refine ⟨rfl, ?_⟩
      rintro W ⟨hG, hF⟩
      obtain ⟨a, b, ha, hb, -, rfl, -, -⟩ := places_round hpre
      have y0 := x0.grew hG (by simp <;> omega)
      have y1 := x1.grew hG (by simp <;> omega)
      have i1 : (0 : Int) ≤ (b : Int) * 8 + (a : Int) := by omega
      have i2 : (b : Int) * 8 + (a : Int) < 64 := by omega
      have hk : b * 8 + a < T.length := by omega
      have hk' : b * 8 + a < T'.length := by omega
      obtain ⟨c, hc⟩ : ∃ d, atT T (b * 8 + a) = d := ⟨_, rfl⟩
      obtain ⟨d, hd⟩ : ∃ d, atT T' (b * 8 + a) = d := ⟨_, rfl⟩
      obtain ⟨c0, c1, c2, c3⟩ := c
      obtain ⟨d0, d1, d2, d3⟩ := d
      have Hc := Lib.hid hc
      have Hd := Lib.hid hd
      have hst : ((pre ++ [((a : Int), (b : Int))]).foldl (boxStep T T') (8, 8, -1, -1) : Col) = boxStep T T' (pre.foldl (boxStep T T') (8, 8, -1, -1)) ((a : Int), (b : Int)) := by rw [List.foldl_append]; rfl
      have he : (((b : Int) * 8 + (a : Int)).toNat) = b * 8 + a := by omega
      have hst2 : ∀ B : Col, boxStep T T' B ((a : Int), (b : Int)) = if ((c0, c1, c2, c3) : Col) = (d0, d1, d2, d3) then B else (min B.1 a, min B.2.1 b, max B.2.2.1 a, max B.2.2.2 b) := by
        intro B; unfold boxStep; simp only [he, hc, hd]
      rw [hst2] at hst
      clear hst2
      generalize hB : (pre.foldl (boxStep T T') (8, 8, -1, -1) : Col) = B at *
      obtain ⟨B0, B1, B2, B3⟩ := B
      have f0 := hF.four
      have f1 := hF.free4
      have H := Lib.hid (And.intro hG (And.intro hF (And.intro b0 (And.intro sz hst))))
      clear hG hF b0 sz hpre x0 x1 x2 x3 hc hd hst he hs hs' hT hT' hB
      cases hcol : colB c0 c1 c2 c3 d0 d1 d2 d3 with
      | true =>
        gi_wp2
        refine wpIn_region_sched [(0, false), (1, false), (2, false), (3, false), (4, false), (5, false), (6, false)] (fun Y => Has Y w.heap.size (.cells (tileA T) 25 (0, 0)) ∧ Has Y (w.heap.size + 1) (.cells (tileA T') 25 (0, 0))) (by kernel_rfl) (by kernel_rfl) (by kernel_rfl) ⟨y0, y1⟩ ?_
        repeat (refine sched_pure (v := ?_) rfl rfl ?_ ?_; rotate_left; (focus (intro Y hY; have z0 := hY.1.pix hk; have z1 := hY.2.pix hk'; rw [Hc.out] at z0; rw [Hd.out] at z1; unfold PixAt at z0 z1; go_simp; try with_reducible rfl)); go_simp; try go_bits)
        refine sched_end ?_
        gi_wp2
        obtain ⟨hG, hF, b0, sz, hst⟩ := H.out
        obtain ⟨rfl, rfl, rfl, rfl⟩ := colB_true hcol
        rw [if_pos rfl] at hst
        exact round_conj (n := w.heap.size) (B := X.heap.size) hG (by omega) (by simp; omega) (by simp; omega) (Grew.refl _ _).drew (by rw [hst]; exact hF.drew)
      | false =>
        have HN := Lib.hid (show ¬ ((c0, c1, c2, c3) : Col) = (d0, d1, d2, d3) by intro e; cases e; rw [colB_self] at hcol; cases hcol)
        gi_wp2
        refine wpIn_region_sched [(0, false), (1, false), (2, false), (3, false), (4, false), (5, false), (6, false)] (fun Y => Has Y w.heap.size (.cells (tileA T) 25 (0, 0)) ∧ Has Y (w.heap.size + 1) (.cells (tileA T') 25 (0, 0))) (by kernel_rfl) (by kernel_rfl) (by kernel_rfl) ⟨y0, y1⟩ ?_
        repeat (refine sched_pure (v := ?_) rfl rfl ?_ ?_; rotate_left; (focus (intro Y hY; have z0 := hY.1.pix hk; have z1 := hY.2.pix hk'; rw [Hc.out] at z0; rw [Hd.out] at z1; unfold PixAt at z0 z1; go_simp; try with_reducible rfl)); go_simp; try go_bits)
        refine sched_end ?_
        gi_wp2
        all_goals
          obtain ⟨hG, hF, b0, sz, hst⟩ := H.out
          rw [if_neg HN.out] at hst
          refine round_conj (n := w.heap.size) (B := X.heap.size) hG (by omega) (by simp; omega) (by simp; omega) (grew_put4 (Grew.refl _ _) (.inl (by simp)) _ _ _ _).drew ?_
          rw [hst]
          first | rw [show min B0 (a : Int) = B0 by omega] | rw [show min B0 (a : Int) = (a : Int) by omega]
          first | rw [show min B1 (b : Int) = B1 by omega] | rw [show min B1 (b : Int) = (b : Int) by omega]
          first | rw [show max B2 (a : Int) = B2 by omega] | rw [show max B2 (a : Int) = (a : Int) by omega]
          first | rw [show max B3 (b : Int) = B3 by omega] | rw [show max B3 (b : Int) = (b : Int) by omega]
          exact (hF.put4 _ _ _ _).drew
    case done =>
      intro D W hD ⟨hG, hF⟩ hK
      obtain ⟨B, hB⟩ : ∃ B, (placesL.foldl (boxStep T T') (8, 8, -1, -1) : Col) = B := ⟨_, rfl⟩
      rw [hB] at hF
      have HB := Lib.hid hB
      clear hB
      obtain ⟨B0, B1, B2, B3⟩ := B
      have e3 := hF.four
      have y2 := x2.grew hG (by simp <;> omega)
      have e2 := y2.four
      have f2 := y2.free4
      have H := Lib.hid (And.intro hG (And.intro y2 (And.intro b0 (And.intro sz hK))))
      clear hG hF y2 b0 sz hK x0 x1 x2 x3 hs hs' hT hT'
      go_wp2
      obtain ⟨hG, y2, b0, sz, hK⟩ := H.out
      have z := y2.put4 (.int .i64 B0) (.int .i64 B1) (.int .i64 B2) (.int .i64 B3)
      have kD := hK.put4_other (r := w.heap.size + 1 + 1) (.int .i64 B0) (.int .i64 B1) (.int .i64 B2) (.int .i64 B3) (by omega)
      have zD := (z.putOther (l := D) (.deferred none) (by omega)).four
      have bW := below_put4 (b0.trans (hG.below (by omega) (by simp; omega))) (r := w.heap.size + 1 + 1) (by omega) (.int .i64 B0) (.int .i64 B1) (.int .i64 B2) (.int .i64 B3)
      refine leaves_mark kD (leaves_end (v := boxR ((B0, B1, B2, B3), true)) ?_ ⟨by rw [← HB.out], bW.trans (below_mark kD (by omega))⟩)
      simp [results, Try.f32, go_sem, zD]
end Go.Proofs.Ytedckelfdkfkoaa
