/- Walks: tiles whose pixels come to other places. -/
import Derived.Test.YtedckelfdkfkoaaD
import Derived.IntWalk
import Derived.RegionTactic
import Derived.ChangeAlike
namespace Go.Proofs.Ytedckelfdkfkoaa
open Go.RowKit Go.Shelf
attribute [local go_sem] Oper.semAt_some
attribute [local go_sem] round_fn round_depth wide_fn wide_depth
attribute [local go_sem 2000] run_col run_tile
attribute [local go_sem ↓] zero25 build25 build176z build176 load25 store25
attribute [local go_sem] rowAt_alloc rowFree_alloc rowAt_drew rowFree_drew zeroA_size zc176 zeroA_ones blkOf_ptr aggOf_agg

/-- a tile whose pixels have moved -/
def moveT (T : List Col) (c : Col) (to : Int → Int → Int × Int) : List Col := foldT (fun p => (to p.1 p.2, atT T (p.2 * 8 + p.1).toNat)) (List.replicate 64 c) placesL
theorem moveT_length (T : List Col) (c : Col) (to : Int → Int → Int × Int) : (moveT T c to).length = 64 := by unfold moveT; rw [foldT_length]; simp

set_option maxRecDepth 100000 in
set_option maxHeartbeats 1000000 in
theorem moved_any (gc : Nat) (en : Enters Try.prog gc) (cap : Array Value) (to : Int → Int → Int × Int) (T : List Col) (c : Col) (w : World) (hT : T.length = 64)
    (hc : ∀ (x y : Nat) (W : World), x < 8 → y < 8 → Below w.heap.size w W → Calls Try.prog gc (#[.int .i64 x, .int .i64 y] ++ cap) W fun e w' => e = .returned (.tuple #[.int .i64 (to x y).1, .int .i64 (to x y).2]) ∧ Grew [] W w') :
    Calls Try.prog 133 #[.agg (tileA T), colV c, .func (.func gc) #[] cap] w fun e w' => e = .returned (.agg (tileA (moveT T c to))) ∧ Below w.heap.size w w' := by
  have Hc := Lib.hid hc
  have HT := Lib.hid hT
  clear hc hT
  obtain ⟨c0, c1, c2, c3⟩ := c
  obtain ⟨N, hN⟩ : ∃ N, tileA (List.replicate 64 (c0, c1, c2, c3)) = N := ⟨_, rfl⟩
  have hs : N.size = 256 := by rw [← hN, tileA_size]; simp
  have HN := Lib.hid hN
  have hfw := build_fold N hs
  have en' : ∀ args w, (callFunc gc args).run Try.prog w = .ok (.enter gc args) w := en
  have En := Lib.hid en'
  clear hN en en'
  refine calls_of_wp_marks Try.func133 rfl ?_
  simp only [Try.ntmps133, List.size_toArray, List.length_cons, List.length_nil, Nat.reduceAdd, Nat.reduceSub, Array.replicate_succ, Array.replicate_zero, List.push_toArray, List.append_toArray, List.nil_append, List.cons_append]
  go_wp2_with (first | (go_at_call 46; refine (new_any (c0, c1, c2, c3) _).mono ?_; rintro e w1 ⟨rfl, hb1⟩; rw [newT, HN.out]) | (go_at_call 130; refine (each_any _).mono ?_; rintro e w' ⟨rfl, rfl⟩))
  obtain ⟨M, hM⟩ : ∃ M, w1.heap.size = M := ⟨_, rfl⟩
  have k0 : Has w1 w.heap.size (.cells (tileA T) 25 (0, 0)) := (((((Has.new w _).alloc _).alloc _).alloc _)).below hb1 (by simp; omega)
  have k2 : Has w1 (w.heap.size + 1 + 1) (.cells #[.func (.func gc) #[] cap] 179 (0, 0)) := (((Has.new' (by simp)).alloc _)).below hb1 (by simp)
  have k3 : Has w1 (w.heap.size + 1 + 1 + 1) (.cells zeroA 25 (0, 0)) := (Has.new' (by simp)).below hb1 (by simp)
  have b1 : Below w.heap.size w w1 := ((((((Below.refl w.heap.size w).alloc (by simp) _).alloc (by simp <;> omega) _).alloc (by simp <;> omega) _).alloc (by simp <;> omega) _)).trans (hb1.mono (by simp; omega))
  have sz1 := hb1.size
  rw [World.size_alloc, World.size_alloc, World.size_alloc, World.size_alloc, hM] at sz1
  rw [hM]
  generalize hW0 : World.alloc _ _ = W0
  have sz : W0.heap.size = M + 2 := by rw [← hW0]; simp [hM]
  have x0 : Has W0 w.heap.size (.cells (tileA T) 25 (0, 0)) := by rw [← hW0]; exact (k0.alloc _).alloc _
  have x2 : Has W0 (w.heap.size + 1 + 1) (.cells #[.func (.func gc) #[] cap] 179 (0, 0)) := by rw [← hW0]; exact (k2.alloc _).alloc _
  have x3 : Has W0 (w.heap.size + 1 + 1 + 1) (.cells zeroA 25 (0, 0)) := by rw [← hW0]; exact (k3.alloc _).alloc _
  have xm : Has W0 M (.cells N 176 (0, 0)) := by rw [← hW0]; exact (Has.new' hM.symm).alloc _
  have xp : Has W0 (M + 1) (.cells #[.pointer (some ⟨M, 0, none⟩)] 174 (0, 0)) := by rw [← hW0]; exact Has.new' (by simp [hM])
  have b0 : Below w.heap.size w W0 := by rw [← hW0]; exact (b1.alloc b1.size _).alloc (by simp; omega) _
  clear hW0 k0 k2 k3 b1 hb1 hM hfw
  rw [← HN.out] at xm
  refine wp_range rfl (enters_of Try.func195 (by kernel_rfl) rfl) (each1_iter w.heap.size W0) (by omega) (Below.refl _ _) (fun _ => rfl)
    (fun pre W => Grew [M] W0 W ∧ Has W M (.cells (tileA (foldT (fun p => (to p.1 p.2, atT T (p.2 * 8 + p.1).toNat)) (List.replicate 64 (c0, c1, c2, c3)) pre)) 176 (0, 0))) (OwnFrom.and own_grew (has_own _ _ _ _ _)) ⟨Grew.refl _ _, xm⟩
    ?round ?done
  case round =>
    intro l pre x W _ hpre
    gi_wp2
    refine ⟨rfl, ?_⟩
    rintro W ⟨hG, hF⟩
    obtain ⟨a, b, ha, hb, -, rfl, -, -⟩ := places_round hpre
    have bW : Below w.heap.size w W := b0.trans (hG.below (by omega) (by simp; omega))
    have y2 : W.cell? ⟨w.heap.size + 1 + 1, 0, none⟩ = some (.func (.func gc) #[] cap) := (x2.grew hG (by simp <;> omega)).cell 0
    have H := Lib.hid (And.intro hG (And.intro hF (And.intro sz (And.intro b0 (And.intro hpre (And.intro bW (And.intro x0 (And.intro x2 (And.intro x3 (And.intro xm (And.intro xp sz1)))))))))))
    clear hG hF sz b0 hpre x0 x2 x3 xm xp bW sz1
    have en' := En.out
    gi_wp2_with (fail)
    refine inRd (Hc.out a b _ ha hb H.out.2.2.2.2.2.1) ?_
    rintro e w2 ⟨rfl, hg2⟩
    clear y2 en'
    have u0 := (H.out.2.2.2.2.2.2.1.grew H.out.1 (by have := H.out.2.2.2.2.2.2.2.2.2.2.2; simp; omega)).grew hg2 (by simp)
    have up := (H.out.2.2.2.2.2.2.2.2.2.2.1.grew H.out.1 (by simp)).grew hg2 (by simp)
    have up1 : w2.cell? ⟨M + 1, 0, none⟩ = some (.pointer (some ⟨M, 0, none⟩)) := up.cell 0
    have i1 : (0 : Int) ≤ (b : Int) * 8 + (a : Int) := by omega
    have i2 : (b : Int) * 8 + (a : Int) < 64 := by omega
    have hk : b * 8 + a < T.length := by rw [HT.out]; omega
    have Hg2 := Lib.hid hg2
    obtain ⟨d, hd⟩ : ∃ d, atT T (b * 8 + a) = d := ⟨_, rfl⟩
    have Hd := Lib.hid hd
    clear hg2 hd
    gi_wp2
    refine wpIn_region_sched [(0, false), (1, false), (2, false), (3, false), (4, false), (5, false), (6, false), (7, false), (8, false), (9, true)] (fun Y => Has Y (M + 1) (.cells #[.pointer (some ⟨M, 0, none⟩)] 174 (0, 0)) ∧ Has Y w.heap.size (.cells (tileA T) 25 (0, 0))) (by kernel_rfl) (by kernel_rfl) (by kernel_rfl) ⟨up, u0⟩ ?_
    repeat (refine sched_pure (v := ?_) rfl rfl ?_ ?_; rotate_left; (focus (intro Y hY; have y0 : Y.cell? ⟨M + 1, 0, none⟩ = some (.pointer (some ⟨M, 0, none⟩)) := hY.1.cell 0; have y1 := hY.2.pix hk; rw [Hd.out] at y1; unfold PixAt at y1; go_simp; try with_reducible rfl)); go_simp; try go_bits)
    refine sched_act rfl rfl ?_
    go_simp
    obtain ⟨hG, hF, sz, b0, hpre, bW, x0, x2, x3, xm, xp, sz1⟩ := H.out
    have hL : (foldT (fun p => (to p.1 p.2, atT T (p.2 * 8 + p.1).toNat)) (List.replicate 64 (c0, c1, c2, c3)) pre).length = 64 := by rw [foldT_length]; simp
    refine (put_any _ M _ _ d _ hL ((hF.grew Hg2.out (by simp)).drew)).mono ?_
    rintro e w3 ⟨rfl, h1, h2⟩
    refine ⟨⟨up.drew.grew h2 (by simp), u0.drew.grew h2 (by simp; omega)⟩, ?_⟩
    refine sched_end ?_
    have g3 : Grew [M] W w3 := ((Hg2.out.mono (by simp)).drew).trans h2
    have h1' : Has w3 M (.cells (tileA (foldT (fun p => (to p.1 p.2, atT T (p.2 * 8 + p.1).toNat)) (List.replicate 64 (c0, c1, c2, c3)) (pre ++ [((a : Int), (b : Int))]))) 176 (0, 0)) := by
      rw [foldT_snoc]
      have e : (((b : Int) * 8 + (a : Int)).toNat) = b * 8 + a := by omega
      simp only [e, Hd.out]
      exact h1
    exact round_conj (n := w.heap.size) (B := W0.heap.size) hG (by omega) (by simp; omega) (by simp; omega) g3 h1'
  case done =>
    intro D W hD ⟨hG, hF⟩ hK
    change Has W M (.cells (tileA (moveT T (c0, c1, c2, c3) to)) 176 (0, 0)) at hF
    have y3 : W.cell? ⟨M + 1, 0, none⟩ = some (.pointer (some ⟨M, 0, none⟩)) := (xp.grew hG (by simp)).cell 0
    have e1 := hF.row
    have e2 := (x3.grew hG (by simp; omega)).row
    have e3 := (x3.grew hG (by simp; omega)).rowFree
    have l1 : (tileA (moveT T (c0, c1, c2, c3) to)).size = 256 := by rw [tileA_size, moveT_length]
    have l2 := onesB_tile (moveT T (c0, c1, c2, c3) to)
    generalize hA : tileA (moveT T (c0, c1, c2, c3) to) = A at *
    have HA := Lib.hid hA
    clear hA
    go_wp2
    have z1 := (x3.grew hG (by simp; omega)).setRow A
    have kD := hK.setRow_other A (b := w.heap.size + 1 + 1 + 1) (by omega)
    have bW : Below w.heap.size w (W.setRow (w.heap.size + 1 + 1 + 1) A) := below_setRow (b0.trans (hG.below (by omega) (by simp; omega))) (by omega) A
    have zD := z1.putOther (l := D) (.deferred none) (by omega)
    have hr := res25 (fn := Try.f133) (p := 6) Try.results133
    refine leaves_mark kD (leaves_end (hr _ _ (w.heap.size + 1 + 1 + 1) 25 A (0, 0) ?_ zD l1) ⟨by rw [← HA.out], bW.trans (below_mark kD (by omega))⟩)
    rfl

set_option maxHeartbeats 400000 in
theorem flip1_any (x y : Int) (w : World) (hx : 0 ≤ x ∧ x < 8) : Calls Try.prog 134 #[.int .i64 x, .int .i64 y] w fun e w' => e = .returned (.tuple #[.int .i64 (7 - x), .int .i64 y]) ∧ w = w' := by
  obtain ⟨h1, h2⟩ := hx
  go_enter Try.func134, Try.ntmps134
  go_wp2
  go_ret2
  exact ⟨rfl, rfl⟩
set_option maxHeartbeats 400000 in
theorem turn1_any (x y : Int) (w : World) (hy : 0 ≤ y ∧ y < 8) : Calls Try.prog 135 #[.int .i64 x, .int .i64 y] w fun e w' => e = .returned (.tuple #[.int .i64 (7 - y), .int .i64 x]) ∧ w = w' := by
  obtain ⟨h1, h2⟩ := hy
  go_enter Try.func135, Try.ntmps135
  go_wp2
  go_ret2
  exact ⟨rfl, rfl⟩

set_option maxRecDepth 100000 in
set_option maxHeartbeats 1000000 in
theorem flip_any (T : List Col) (w : World) (hT : T.length = 64) :
    Calls Try.prog 36 #[.agg (tileA T)] w fun e w' => e = .returned (.agg (tileA (moveT T z0 (fun x y => (7 - x, y))))) ∧ Below w.heap.size w w' := by
  have hs : (tileA T).size = 256 := by rw [tileA_size, hT]
  have l1 : (tileA (moveT T z0 (fun x y => (7 - x, y)))).size = 256 := by rw [tileA_size, moveT_length]
  have l2 := onesB_tile (moveT T z0 (fun x y => (7 - x, y)))
  have HT := Lib.hid hT
  clear hT
  go_enter Try.func36, Try.ntmps36
  go_wp2_with (fail)
  refine (moved_any 134 (enters_of Try.func134 (by kernel_rfl) rfl) #[] (fun x y => (7 - x, y)) T z0 _ HT.out (fun x y W hx hy _ => (flip1_any _ _ W (by omega)).mono (by rintro e w' ⟨rfl, rfl⟩; exact ⟨rfl, Grew.refl _ _⟩))).mono ?_
  rintro e w1 ⟨rfl, hb1⟩
  have k1 : Has w1 (w.heap.size + 1) (.cells zeroA 25 (0, 0)) := (Has.new' (by simp)).below hb1 (by simp)
  have b1 : Below w.heap.size w w1 := (((Below.refl w.heap.size w).alloc (by simp) _).alloc (by simp <;> omega) _).trans (hb1.mono (by simp; omega))
  have e2 := k1.row
  have e3 := k1.rowFree
  have H := Lib.hid (And.intro k1 b1)
  clear k1 b1 hb1
  generalize hA : tileA (moveT T z0 (fun x y => (7 - x, y))) = A at *
  have HA := Lib.hid hA
  clear hA
  go_wp2
  have hr := res25 (fn := Try.f36) (p := 2) Try.results36
  refine bodyPost_ret (v := .agg A) (hr _ _ (w.heap.size + 1) 25 A (0, 0) rfl (H.out.1.setRow A) l1) rfl ⟨by rw [← HA.out], below_setRow H.out.2 (by omega) _⟩

/-- a tile turned so often -/
def turnT (T : List Col) : List Col := moveT T z0 (fun x y => (7 - y, x))
def turnsT : Nat → List Col → List Col
  | 0, T => T
  | n + 1, T => turnsT n (turnT T)
theorem turnsT_length : ∀ (n : Nat) (T : List Col), T.length = 64 → (turnsT n T).length = 64
  | 0, _, h => h
  | n + 1, _, _ => turnsT_length n _ (moveT_length _ _ _)
/-- how many quarters are left -/
def quartN (q : Int) : Nat := ((q.tmod 4 + 4) % 4).toNat
theorem tmod4 (q : Int) : -3 ≤ q.tmod 4 ∧ q.tmod 4 ≤ 3 := by
  have h1 := Int.tmod_lt_of_pos q (show (0 : Int) < 4 by omega)
  rcases Int.le_total 0 q with h | h
  · have := Int.tmod_nonneg 4 h; omega
  · have h3 := Int.tmod_lt_of_pos (-q) (show (0 : Int) < 4 by omega)
    have h4 := Int.tmod_nonneg 4 (show 0 ≤ -q by omega)
    rw [Int.neg_tmod] at h3 h4
    omega

set_option maxRecDepth 100000 in
set_option maxHeartbeats 1000000 in
theorem turn_any (T : List Col) (q : Int) (w : World) (hT : T.length = 64) :
    Calls Try.prog 38 #[.agg (tileA T), .int .i64 q] w fun e w' => e = .returned (.agg (tileA (turnsT (quartN q) T))) ∧ Below w.heap.size w w' := by
  obtain ⟨q1, q2⟩ := tmod4 q
  have hq : ((q.tmod 4 + 4) % 4 : Int) = (quartN q : Int) := by unfold quartN; omega
  have HQ := Lib.hid hq
  have hs : (tileA T).size = 256 := by rw [tileA_size, hT]
  obtain ⟨R, hR⟩ : ∃ R, turnsT (quartN q) T = R := ⟨_, rfl⟩
  have HR := Lib.hid (And.intro hR hT)
  rw [hR]
  clear hq hT hR
  go_enter Try.func38, Try.ntmps38
  go_wp2
  generalize hX : World.alloc _ _ = X
  have x0 : Has X w.heap.size (.cells (tileA T) 25 (0, 0)) := by rw [← hX]; exact (Has.new' (by simp)).alloc _
  have x1 : Has X (w.heap.size + 1) (.cells zeroA 25 (0, 0)) := by rw [← hX]; exact Has.new' (by simp)
  have b0 : Below w.heap.size w X := by rw [← hX]; repeat (first | exact Below.refl _ _ | refine Below.alloc ?_ (by simp <;> omega) _)
  clear hX
  refine wp_scope_loop (fun n a wr => ∃ (T' : List Col) (u9 u10 u11 u12 u13 u14 u15 u16 u17 : Value), a = { tmps := #[.agg (tileA T), .int .i64 q, .pointer (some ⟨w.heap.size, 0, none⟩), undef, .pointer (some ⟨w.heap.size + 1, 0, none⟩), .int .i64 n, .int .i64 q, .int .i64 (q.tmod 4), .int .i64 (q.tmod 4 + 4), u9, u10, u11, u12, u13, u14, u15, u16, u17], defers := [] } ∧
    n ≤ 3 ∧ T'.length = 64 ∧ turnsT n T' = R ∧ Has wr w.heap.size (.cells (tileA T') 25 (0, 0)) ∧ Has wr (w.heap.size + 1) (.cells zeroA 25 (0, 0)) ∧ Below w.heap.size w wr) (quartN q) rfl ?_ ?_
  · go_wp2
    refine ⟨T, _, _, _, _, _, _, _, _, _, by rw [← HQ.out], by have := HQ.out; omega, HR.out.2, HR.out.1, x0, x1, b0⟩
  · rintro n a wr ⟨T', u9, u10, u11, u12, u13, u14, u15, u16, u17, rfl, hn, hT', hR, x0, x1, b0⟩
    have hs' : (tileA T').size = 256 := by rw [tileA_size, hT']
    have ho' := onesB_tile T'
    have e0 := x0.row
    have f0 := x0.rowFree
    have e1 := x1.row
    have f1 := x1.rowFree
    by_cases h0 : 0 < n
    · obtain ⟨m, rfl⟩ : ∃ m, n = m + 1 := ⟨n - 1, by omega⟩
      have H := Lib.hid (And.intro hT' (And.intro hR (And.intro x0 (And.intro x1 b0))))
      have l1 : (tileA (turnT T')).size = 256 := by unfold turnT; rw [tileA_size, moveT_length]
      have l2 := onesB_tile (turnT T')
      clear hT' hR x0 x1 b0
      go_wp2_with (fail)
      refine (moved_any 135 (enters_of Try.func135 (by kernel_rfl) rfl) #[] (fun x y => (7 - y, x)) T' z0 _ H.out.1 (fun x y W hx hy _ => (turn1_any _ _ W (by omega)).mono (by rintro e w' ⟨rfl, rfl⟩; exact ⟨rfl, Grew.refl _ _⟩))).mono ?_
      rintro e w1 ⟨rfl, hb1⟩
      have k0 := H.out.2.2.1.below hb1 H.out.2.2.1.lt
      have k1 := H.out.2.2.2.1.below hb1 H.out.2.2.2.1.lt
      have b1 := H.out.2.2.2.2.trans (hb1.mono H.out.2.2.2.2.size)
      have e0' := k0.row
      have f0' := k0.rowFree
      have ha : moveT T' z0 (fun x y => (7 - y, x)) = turnT T' := rfl
      rw [ha]
      have H2 := Lib.hid (And.intro k0 (And.intro k1 b1))
      clear k0 k1 b1 hb1 e0 f0 e1 f1 ha
      generalize hA : tileA (turnT T') = A at *
      have HA := Lib.hid hA
      clear hA
      go_wp2
      refine wp_goto ⟨rfl, m, by omega, turnT T', _, _, _, _, _, _, _, _, _, rfl, by omega, moveT_length _ _ _, H.out.2.1, ?_, H2.out.2.1.setRow_other _ (by omega), below_setRow H2.out.2.2 (Nat.le_refl _) _⟩
      rw [HA.out]
      exact H2.out.1.setRow A
    · obtain rfl : n = 0 := by omega
      have hR' : T' = R := hR
      subst hR'
      have H := Lib.hid (And.intro hT' (And.intro x0 (And.intro x1 b0)))
      clear hT' hR x0 x1 b0 HR HQ
      generalize hA : tileA T' = A at *
      have HA := Lib.hid hA
      clear hA
      go_wp2
      have hr := res25 (fn := Try.f38) (p := 4) Try.results38
      simp only [Exit.jump]
      refine bodyPost_ret (v := .agg A) (hr _ _ (w.heap.size + 1) 25 A (0, 0) rfl (H.out.2.2.1.setRow A) hs') rfl ⟨by rw [← HA.out], below_setRow H.out.2.2.2 (by omega) _⟩

/-- how far it is shifted -/
def clampZ (x : Int) : Int := min (max x (-8)) 8
set_option maxHeartbeats 400000 in
theorem shift1_any (x y dx dy : Int) (r s : Nat) (w : World) (h1 : 0 ≤ x ∧ x < 8) (h2 : 0 ≤ y ∧ y < 8) (h3 : -8 ≤ dx ∧ dx ≤ 8) (h4 : -8 ≤ dy ∧ dy ≤ 8)
    (c1 : w.cell? ⟨r, 0, none⟩ = some (.int .i64 dx)) (c2 : w.cell? ⟨s, 0, none⟩ = some (.int .i64 dy)) :
    Calls Try.prog 137 #[.int .i64 x, .int .i64 y, .pointer (some ⟨r, 0, none⟩), .pointer (some ⟨s, 0, none⟩)] w fun e w' => e = .returned (.tuple #[.int .i64 (x + dx), .int .i64 (y + dy)]) ∧ Grew [] w w' := by
  obtain ⟨h11, h12⟩ := h1
  obtain ⟨h21, h22⟩ := h2
  obtain ⟨h31, h32⟩ := h3
  obtain ⟨h41, h42⟩ := h4
  go_enter Try.func137, Try.ntmps137
  go_wp2
  have w1 : IntKind.i64.wrap (x + dx) = x + dx := IntWalk.i64_in _ (by omega)
  have w2 : IntKind.i64.wrap (y + dy) = y + dy := IntWalk.i64_in _ (by omega)
  refine wp_region_sched [(0, false), (1, false), (2, false), (3, false), (4, false), (5, false), (6, false), (7, false)] (fun Y => Y.cell? ⟨r, 0, none⟩ = some (.int .i64 dx) ∧ Y.cell? ⟨s, 0, none⟩ = some (.int .i64 dy)) (by kernel_rfl) (by kernel_rfl) ⟨c1, c2⟩ ?_
  repeat (refine sched_pure (v := ?_) rfl rfl ?_ ?_; rotate_left; (focus (intro Y hY; have y0 := hY.1; have y1 := hY.2; go_simp; try with_reducible rfl)); go_simp; try go_bits)
  refine sched_end ?_
  go_wp2
  go_ret2
  exact ⟨rfl, (Grew.refl _ _).drew⟩

set_option maxRecDepth 100000 in
set_option maxHeartbeats 1000000 in
theorem shift_any (T : List Col) (x y : Int) (c : Col) (w : World) (hT : T.length = 64) :
    Calls Try.prog 40 #[.agg (tileA T), .int .i64 x, .int .i64 y, colV c] w fun e w' => e = .returned (.agg (tileA (moveT T c (fun u v => (u + clampZ x, v + clampZ y))))) ∧ Below w.heap.size w w' := by
  obtain ⟨c0, c1, c2, c3⟩ := c
  have hs : (tileA T).size = 256 := by rw [tileA_size, hT]
  have HT := Lib.hid hT
  clear hT
  go_enter Try.func40, Try.ntmps40
  go_wp2
  generalize hX : World.alloc _ _ = X
  have x0 : Has X w.heap.size (.cells (tileA T) 25 (0, 0)) := by rw [← hX]; exact ((((Has.new' (by simp)).alloc _).alloc _).alloc _).alloc _
  have x1 : Has X (w.heap.size + 1) (.cells #[.int .i64 x] 3 (0, 0)) := by rw [← hX]; exact (((Has.new' (by simp)).alloc _).alloc _).alloc _
  have x2 : Has X (w.heap.size + 1 + 1) (.cells #[.int .i64 y] 3 (0, 0)) := by rw [← hX]; exact ((Has.new' (by simp)).alloc _).alloc _
  have x3 : Has X (w.heap.size + 1 + 1 + 1) (.cells #[.int .u8 c0, .int .u8 c1, .int .u8 c2, .int .u8 c3] 23 (0, 0)) := by rw [← hX]; exact (Has.new' (by simp)).alloc _
  have x4 : Has X (w.heap.size + 1 + 1 + 1 + 1) (.cells zeroA 25 (0, 0)) := by rw [← hX]; exact (Has.new' (by simp))
  have b0 : Below w.heap.size w X := by rw [← hX]; repeat (first | exact Below.refl _ _ | refine Below.alloc ?_ (by simp <;> omega) _)
  have sz : X.heap.size = w.heap.size + 5 := by rw [← hX]; simp
  clear hX
  have u1 : X.cell? ⟨w.heap.size + 1, 0, none⟩ = some (.int .i64 x) := x1.cell 0
  have u2 : X.cell? ⟨w.heap.size + 1 + 1, 0, none⟩ = some (.int .i64 y) := x2.cell 0
  have f1 := x1.free 0
  have f2 := x2.free 0
  have H := Lib.hid (And.intro x0 (And.intro x1 (And.intro x2 (And.intro x3 (And.intro x4 (And.intro b0 sz))))))
  clear x0 x1 x2 x3 x4 b0 sz
  go_region
  have e1 : (if 8 < if x < -8 then -8 else x then 8 else if x < -8 then -8 else x) = clampZ x := by unfold clampZ; split <;> split <;> omega
  have e2 : (if 8 < if y < -8 then -8 else y then 8 else if y < -8 then -8 else y) = clampZ y := by unfold clampZ; split <;> split <;> omega
  rw [e1, e2]
  generalize (if x < -8 then (-8 : Int) else x) = mx
  generalize (if y < -8 then (-8 : Int) else y) = my
  clear u1 u2 f1 f2 e1 e2
  obtain ⟨x0, x1, x2, x3, x4, b0, sz⟩ := H.out
  clear H
  generalize hZ : World.drew _ = Z
  have z0' : Has Z w.heap.size (.cells (tileA T) 25 (0, 0)) := by rw [← hZ]; exact ((x0.other (a := ⟨_, _, none⟩) _ (by simp)).other (a := ⟨_, _, none⟩) _ (by simp <;> omega)).drew
  have z1 : Has Z (w.heap.size + 1) (.cells #[.int .i64 (clampZ x)] 3 (0, 0)) := by rw [← hZ]; exact ((x1.set 0 _).other (a := ⟨_, _, none⟩) _ (by simp)).drew
  have z2 : Has Z (w.heap.size + 1 + 1) (.cells #[.int .i64 (clampZ y)] 3 (0, 0)) := by rw [← hZ]; exact ((x2.other (a := ⟨_, _, none⟩) _ (by simp)).set 0 _).drew
  have z3 : Has Z (w.heap.size + 1 + 1 + 1) (.cells #[.int .u8 c0, .int .u8 c1, .int .u8 c2, .int .u8 c3] 23 (0, 0)) := by rw [← hZ]; exact ((x3.other (a := ⟨_, _, none⟩) _ (by simp <;> omega)).other (a := ⟨_, _, none⟩) _ (by simp <;> omega)).drew
  have z4 : Has Z (w.heap.size + 1 + 1 + 1 + 1) (.cells zeroA 25 (0, 0)) := by rw [← hZ]; exact ((x4.other (a := ⟨_, _, none⟩) _ (by simp <;> omega)).other (a := ⟨_, _, none⟩) _ (by simp <;> omega)).drew
  have bZ : Below w.heap.size w Z := by rw [← hZ]; exact ((b0.setCell (p := ⟨_, _, none⟩) (by simp) _).setCell (p := ⟨_, _, none⟩) (by simp <;> omega) _).drew
  clear hZ x0 x1 x2 x3 x4 b0 sz
  have e0 := z0'.row
  have e3 := z3.four
  have cx : -8 ≤ clampZ x ∧ clampZ x ≤ 8 := by unfold clampZ; omega
  have cy : -8 ≤ clampZ y ∧ clampZ y ≤ 8 := by unfold clampZ; omega
  obtain ⟨A, hA⟩ : ∃ A, tileA (moveT T (c0, c1, c2, c3) (fun u v => (u + clampZ x, v + clampZ y))) = A := ⟨_, rfl⟩
  have l1 : A.size = 256 := by rw [← hA, tileA_size, moveT_length]
  have l2 : onesB A = true := by rw [← hA]; exact onesB_tile _
  have H := Lib.hid (And.intro z1 (And.intro z2 (And.intro z4 (And.intro bZ (And.intro cx (And.intro cy hA))))))
  clear z0' z1 z2 z3 z4 bZ cx cy hA
  go_wp2_with (fail)
  obtain ⟨z1, z2, z4, bZ, cx, cy, hA⟩ := H.out
  refine (moved_any 137 (enters_of Try.func137 (by kernel_rfl) rfl) #[.pointer (some ⟨w.heap.size + 1, 0, none⟩), .pointer (some ⟨w.heap.size + 1 + 1, 0, none⟩)] (fun u v => (u + clampZ x, v + clampZ y)) T (c0, c1, c2, c3) _ HT.out
    (fun u v W hu hv hb => shift1_any _ _ _ _ _ _ W (by omega) (by omega) cx cy ((z1.below hb z1.lt).cell 0) ((z2.below hb z2.lt).cell 0))).mono ?_
  rintro e w1 ⟨rfl, hb1⟩
  rw [hA]
  have k4 := z4.below hb1 z4.lt
  have b1 := bZ.trans (hb1.mono bZ.size)
  have r1 := k4.row
  have r2 := k4.rowFree
  have H2 := Lib.hid (And.intro k4 b1)
  clear k4 b1 hb1 z1 z2 z4 bZ cx cy hA e0 e3
  go_wp2
  have hr := res25 (fn := Try.f40) (p := 8) Try.results40
  refine bodyPost_ret (v := .agg A) (hr _ _ (w.heap.size + 1 + 1 + 1 + 1) 25 A (0, 0) rfl (H2.out.1.setRow A) l1) rfl ⟨by rw [← H.out.2.2.2.2.2.2], below_setRow H2.out.2 (by omega) _⟩
end Go.Proofs.Ytedckelfdkfkoaa
