/- Walks: what the parts of two colours come to. -/
import Derived.Test.YtnladfpckejogaaA
import Derived.StillTailTactics
import Derived.BigQuiet
import Derived.Lib.Hide
namespace Go.Proofs.Ytnladfpckejogaa
open Go.RowKit Go.Shelf
attribute [local go_sem] Oper.semAt_some

set_option maxHeartbeats 400000 in
theorem parts_any (r g b a : Int) (w : World) :
    Calls Try.prog 29 #[.agg #[.int .u8 r, .int .u8 g, .int .u8 b, .int .u8 a]] w fun e w' =>
      e = .returned (.func (.func 42) #[] #[.pointer (some ⟨w.heap.size, 0, none⟩)]) ∧ w.alloc (.cells #[.int .u8 r, .int .u8 g, .int .u8 b, .int .u8 a] 58) = w' := by
  go_enter Try.func29, Try.ntmps29
  go_wp2
  go_ret
  exact ⟨rfl, rfl⟩

theorem partsL_cases {r g b a : Int} {pre : List (Int × Int)} {x : Int × Int} (h : pre ++ [x] <+: partsL r g b a) :
    (pre = [] ∧ x = (0, r)) ∨ (pre = [(0, r)] ∧ x = (1, g)) ∨ (pre = [(0, r), (1, g)] ∧ x = (2, b)) ∨ (pre = [(0, r), (1, g), (2, b)] ∧ x = (3, a)) := by
  obtain ⟨t, ht⟩ := h
  unfold partsL at ht
  match pre, ht with
  | [], ht => simp at ht; exact .inl ⟨rfl, ht.1⟩
  | [p], ht => simp at ht; obtain ⟨rfl, rfl, _⟩ := ht; exact .inr (.inl ⟨rfl, rfl⟩)
  | [p, q], ht => simp at ht; obtain ⟨rfl, rfl, rfl, _⟩ := ht; exact .inr (.inr (.inl ⟨rfl, rfl⟩))
  | [p, q, s], ht => simp at ht; obtain ⟨rfl, rfl, rfl, rfl, _⟩ := ht; exact .inr (.inr (.inr ⟨rfl, rfl⟩))
  | p :: q :: s :: u :: v, ht => simp at ht

/-- four cells, of which the first have come -/
def fill4 (k : IntKind) (f : Int × Int → Int) (pre : List (Int × Int)) : Array Value :=
  #[.int k ((pre[0]?).elim 0 f), .int k ((pre[1]?).elim 0 f), .int k ((pre[2]?).elim 0 f), .int k ((pre[3]?).elim 0 f)]

attribute [local go_sem] round_fn round_depth wide_fn wide_depth

/-- .. what they come to, with those of the other colour -/
def fillB (mk : Int → Int → Int) (r' g' b' a' : Int) (pre : List (Int × Int)) : Array Value :=
  #[.int .u8 ((pre[0]?).elim 0 (fun p => mk p.2 r')), .int .u8 ((pre[1]?).elim 0 (fun p => mk p.2 g')), .int .u8 ((pre[2]?).elim 0 (fun p => mk p.2 b')), .int .u8 ((pre[3]?).elim 0 (fun p => mk p.2 a'))]

set_option maxRecDepth 100000 in
set_option maxHeartbeats 1000000 in
theorem bothB_any (gc : Nat) (en : Enters Try.prog gc) (cap : Array Value) (mk : Int → Int → Int) (r g b a r' g' b' a' : Int) (w : World)
    (hr : 0 ≤ r ∧ r ≤ 255) (hg : 0 ≤ g ∧ g ≤ 255) (hb : 0 ≤ b ∧ b ≤ 255) (ha : 0 ≤ a ∧ a ≤ 255)
    (hr' : 0 ≤ r' ∧ r' ≤ 255) (hg' : 0 ≤ g' ∧ g' ≤ 255) (hb' : 0 ≤ b' ∧ b' ≤ 255) (ha' : 0 ≤ a' ∧ a' ≤ 255)
    (hc : ∀ (x y : Int) (W : World), 0 ≤ x → x ≤ 255 → 0 ≤ y → y ≤ 255 → Below w.heap.size w W →
      Calls Try.prog gc (#[.int .i64 x, .int .i64 y] ++ cap) W fun e w' => e = .returned (.int .u8 (mk x y)) ∧ W = w') :
    Calls Try.prog 38 #[.agg #[.int .u8 r, .int .u8 g, .int .u8 b, .int .u8 a], .agg #[.int .u8 r', .int .u8 g', .int .u8 b', .int .u8 a'], .func (.func gc) #[] cap] w fun e w' =>
      e = .returned (.agg #[.int .u8 (mk r r'), .int .u8 (mk g g'), .int .u8 (mk b b'), .int .u8 (mk a a')]) ∧ Below w.heap.size w w' := by
  have Hc := Lib.hid hc
  clear hc
  refine calls_of_wp_marks Try.func38 rfl ?_
  simp only [Try.ntmps38, List.size_toArray, List.length_cons, List.length_nil, Nat.reduceAdd, Nat.reduceSub, Array.replicate_succ, Array.replicate_zero, List.push_toArray, List.append_toArray, List.nil_append, List.cons_append]
  go_wp2_with (go_at_call 29; refine (parts_any _ _ _ _ _).mono ?_; rintro e w' ⟨rfl, rfl⟩)
  generalize hW0 : World.alloc _ _ = W0
  have hsz : W0.heap.size = w.heap.size + 7 := by rw [← hW0]; simp
  have b0 : Below w.heap.size w W0 := by rw [← hW0]; repeat (first | exact Below.refl _ _ | refine Below.alloc ?_ (by simp <;> omega) _)
  have hB0 : Has W0 (w.heap.size) (.cells #[.int .u8 r, .int .u8 g, .int .u8 b, .int .u8 a] 27 (0, 0)) := by rw [← hW0]; exact ((((((Has.new' (by simp)).alloc _).alloc _).alloc _).alloc _).alloc _).alloc _
  have hB2 : Has W0 (w.heap.size + 1 + 1) (.cells #[.func (.func gc) #[] cap] 76 (0, 0)) := by rw [← hW0]; exact ((((Has.new' (by simp)).alloc _).alloc _).alloc _).alloc _
  have hB3 : Has W0 (w.heap.size + 1 + 1 + 1) (.cells #[.int .u8 0, .int .u8 0, .int .u8 0, .int .u8 0] 73 (0, 0)) := by rw [← hW0]; exact (((Has.new' (by simp)).alloc _).alloc _).alloc _
  have hB4 : Has W0 (w.heap.size + 1 + 1 + 1 + 1) (.cells #[.int .u8 0, .int .u8 0, .int .u8 0, .int .u8 0] 73 (0, 0)) := by rw [← hW0]; exact ((Has.new' (by simp)).alloc _).alloc _
  have hB5 : Has W0 (w.heap.size + 1 + 1 + 1 + 1 + 1) (.cells #[.int .i64 0, .int .i64 0, .int .i64 0, .int .i64 0] 61 (0, 0)) := by rw [← hW0]; exact (Has.new' (by simp)).alloc _
  have hB6 : Has W0 (w.heap.size + 1 + 1 + 1 + 1 + 1 + 1) (.cells #[.int .u8 r', .int .u8 g', .int .u8 b', .int .u8 a'] 58 (0, 0)) := by rw [← hW0]; exact Has.new' (by simp)
  clear hW0
  refine wp_range rfl (enters_of Try.func42 (by kernel_rfl) rfl) (parts1_iter (w.heap.size + 1 + 1 + 1 + 1 + 1 + 1) w.heap.size r' g' b' a' W0 (by omega) (by omega) hr' hg' hb' ha' (hB6.cell 0) (hB6.cell 1) (hB6.cell 2) (hB6.cell 3)) (by omega) (Below.refl _ _) (fun _ => rfl)
    (fun pre W => Grew [w.heap.size + 1 + 1 + 1 + 1 + 1] W0 W ∧ Has W (w.heap.size + 1 + 1 + 1 + 1 + 1) (.cells (fill4 .i64 (fun p => p.2) pre) 61 (0, 0))) (OwnFrom.and own_grew (has_own _ _ _ _ _)) ⟨Grew.refl _ _, hB5⟩
    ?round ?done
  case round =>
    intro l pre x W _ hpre
    gi_wp2
    refine ⟨rfl, ?_⟩
    rintro W ⟨hG, hF⟩
    have fin : ∀ (k : Nat) (v : Value) (pre' : List (Int × Int)), (fill4 .i64 (fun p => p.2) pre).setIfInBounds k v = fill4 .i64 (fun p => p.2) pre' →
        KeepsFrom W0.heap.size W (W.setCell ⟨w.heap.size + 1 + 1 + 1 + 1 + 1, k, none⟩ v) ∧ Below w.heap.size W (W.setCell ⟨w.heap.size + 1 + 1 + 1 + 1 + 1, k, none⟩ v) ∧ Grew [w.heap.size + 1 + 1 + 1 + 1 + 1] W0 (W.setCell ⟨w.heap.size + 1 + 1 + 1 + 1 + 1, k, none⟩ v) ∧ Has (W.setCell ⟨w.heap.size + 1 + 1 + 1 + 1 + 1, k, none⟩ v) (w.heap.size + 1 + 1 + 1 + 1 + 1) (.cells (fill4 .i64 (fun p => p.2) pre') 61 (0, 0)) := by
      intro k v pre' he
      refine ⟨(KeepsOthers.setCell _ _ _).from _, (Below.refl _ _).setCell (by simp; omega) _, hG.setCell _ (.inl (by simp)), ?_⟩
      rw [← he]; exact hF.set k v
    rcases partsL_cases hpre with ⟨rfl, rfl⟩ | ⟨rfl, rfl⟩ | ⟨rfl, rfl⟩ | ⟨rfl, rfl⟩
    · have c := hF.cell 0; have f := hF.free 0
      have Hf := Lib.hid fin; clear fin
      gi_wp2
      exact Hf.out 0 _ _ rfl
    · have c := hF.cell 1; have f := hF.free 1
      have Hf := Lib.hid fin; clear fin
      gi_wp2
      exact Hf.out 1 _ _ rfl
    · have c := hF.cell 2; have f := hF.free 2
      have Hf := Lib.hid fin; clear fin
      gi_wp2
      exact Hf.out 2 _ _ rfl
    · have c := hF.cell 3; have f := hF.free 3
      have Hf := Lib.hid fin; clear fin
      gi_wp2
      exact Hf.out 3 _ _ rfl
  case done =>
    intro D W hD ⟨hG, hF⟩ hK
    have h0 := hB0.grew hG (by simp <;> omega)
    have h2 := hB2.grew hG (by simp <;> omega)
    have h3 := hB3.grew hG (by simp <;> omega)
    have h4 := hB4.grew hG (by simp <;> omega)
    have hz := hG.size
    have hlt := hK.lt
    have bW : Below w.heap.size w W := b0.trans (hG.below (by omega) (by simp; omega))
    have c0 : W.cell? ⟨w.heap.size, 0, none⟩ = some (.int .u8 r) := h0.cell 0
    have c1 : W.cell? ⟨w.heap.size, 1, none⟩ = some (.int .u8 g) := h0.cell 1
    have c2 : W.cell? ⟨w.heap.size, 2, none⟩ = some (.int .u8 b) := h0.cell 2
    have c3 : W.cell? ⟨w.heap.size, 3, none⟩ = some (.int .u8 a) := h0.cell 3
    have Hsz := Lib.hid hsz
    clear hsz
    go_wp2_with (go_at_call 29; refine (parts_any _ _ _ _ _).mono ?_; rintro e w' ⟨rfl, rfl⟩)
    have hsz := Hsz.out
    generalize hV : World.alloc _ _ = V
    have vsz : V.heap.size = W.heap.size + 1 := by rw [← hV]; simp
    have k0 : Has V W.heap.size (.cells #[.int .u8 r, .int .u8 g, .int .u8 b, .int .u8 a] 58 (0, 0)) := by rw [← hV]; exact Has.new' rfl
    have gV : Grew [w.heap.size + 1 + 1 + 1 + 1 + 1] W0 V := by rw [← hV]; exact hG.alloc _
    have bV : Below w.heap.size w V := by rw [← hV]; exact bW.alloc (by omega) _
    have k2 : Has V (w.heap.size + 1 + 1) (.cells #[.func (.func gc) #[] cap] 76 (0, 0)) := by rw [← hV]; exact h2.alloc _
    have k3 : Has V (w.heap.size + 1 + 1 + 1) (.cells #[.int .u8 0, .int .u8 0, .int .u8 0, .int .u8 0] 73 (0, 0)) := by rw [← hV]; exact h3.alloc _
    have k4 : Has V (w.heap.size + 1 + 1 + 1 + 1) (.cells #[.int .u8 0, .int .u8 0, .int .u8 0, .int .u8 0] 73 (0, 0)) := by rw [← hV]; exact h4.alloc _
    have k5 : Has V (w.heap.size + 1 + 1 + 1 + 1 + 1) (.cells #[.int .i64 r', .int .i64 g', .int .i64 b', .int .i64 a'] 61 (0, 0)) := by rw [← hV]; exact hF.alloc _
    have kD : Has V D (.deferred (some [])) := by rw [← hV]; exact hK.alloc _
    clear hV
    clear c0 c1 c2 c3
    refine wp_range rfl (enters_of Try.func42 (by kernel_rfl) rfl) (parts1_iter W.heap.size w.heap.size r g b a V (by omega) (by omega) hr hg hb ha (k0.cell 0) (k0.cell 1) (k0.cell 2) (k0.cell 3)) (by omega) (Below.refl _ _) (fun _ => rfl)
      (fun pre X => Grew [w.heap.size + 1 + 1 + 1 + 1] V X ∧ Has X (w.heap.size + 1 + 1 + 1 + 1) (.cells (fillB mk r' g' b' a' pre) 73 (0, 0))) (OwnFrom.and own_grew (has_own _ _ _ _ _)) ⟨Grew.refl _ _, k4⟩
      ?round2 ?done2
    case round2 =>
      intro l pre x X _ hpre
      gi_wp2
      refine ⟨rfl, ?_⟩
      rintro X ⟨hG2, hF2⟩
      have fin : ∀ (k : Nat) (v : Value) (pre' : List (Int × Int)), (fillB mk r' g' b' a' pre).setIfInBounds k v = fillB mk r' g' b' a' pre' →
          KeepsFrom V.heap.size X ((X.setCell ⟨w.heap.size + 1 + 1 + 1 + 1, k, none⟩ v).drew) ∧ Below w.heap.size X ((X.setCell ⟨w.heap.size + 1 + 1 + 1 + 1, k, none⟩ v).drew) ∧ Grew [w.heap.size + 1 + 1 + 1 + 1] V ((X.setCell ⟨w.heap.size + 1 + 1 + 1 + 1, k, none⟩ v).drew) ∧ Has ((X.setCell ⟨w.heap.size + 1 + 1 + 1 + 1, k, none⟩ v).drew) (w.heap.size + 1 + 1 + 1 + 1) (.cells (fillB mk r' g' b' a' pre') 73 (0, 0)) := by
        intro k v pre' he
        refine ⟨((KeepsOthers.setCell _ _ _).trans (KeepsOthers.drew _)).from _, ((Below.refl _ _).setCell (by simp; omega) _).drew, (hG2.setCell _ (.inl (by simp))).drew, ?_⟩
        rw [← he]; exact hF2.set k v
      have hbX : Below w.heap.size w X := bV.trans (hG2.below (by omega) (by simp; omega))
      rcases partsL_cases hpre with ⟨rfl, rfl⟩ | ⟨rfl, rfl⟩ | ⟨rfl, rfl⟩ | ⟨rfl, rfl⟩
      · have c : X.cell? ⟨w.heap.size + 1 + 1 + 1 + 1, 0, none⟩ = some (.int .u8 0) := hF2.cell 0
        have f := hF2.free 0
        have cf : X.cell? ⟨w.heap.size + 1 + 1, 0, none⟩ = some (.func (.func gc) #[] cap) := (k2.grew hG2 (by simp <;> omega)).cell 0
        have co : X.cell? ⟨w.heap.size + 1 + 1 + 1 + 1 + 1, 0, none⟩ = some (.int .i64 r') := (k5.grew hG2 (by simp <;> omega)).cell 0
        have Hf := Lib.hid fin; clear fin
        have hcall := Hc.out r r' X.drew (by omega) (by omega) (by omega) (by omega) hbX.drew
        have en' : ∀ args w, (callFunc gc args).run Try.prog w = .ok (.enter gc args) w := en
        gi_wp2
        refine wpIn_region_sched [(0, false), (1, false), (2, false), (3, false), (4, false), (5, false), (6, true), (7, false), (8, true)] (fun Y => Y.cell? ⟨w.heap.size + 1 + 1, 0, none⟩ = some (.func (.func gc) #[] cap) ∧ Y.cell? ⟨w.heap.size + 1 + 1 + 1 + 1 + 1, 0, none⟩ = some (.int .i64 r')) (by kernel_rfl) (by kernel_rfl) (by kernel_rfl) ⟨cf, co⟩ ?_
        repeat (refine sched_pure (v := ?_) rfl rfl ?_ ?_; rotate_left; (focus (intro Y hY; go_simp; try with_reducible rfl)); go_simp)
        refine sched_act rfl rfl ?_
        go_simp
        refine hcall.mono ?_
        rintro e w' ⟨rfl, rfl⟩
        refine ⟨⟨cf, co⟩, ?_⟩
        go_simp
        repeat (refine sched_pure (v := ?_) rfl rfl ?_ ?_; rotate_left; (focus (intro Y hY; go_simp; try with_reducible rfl)); go_simp)
        refine sched_act rfl rfl ?_
        go_simp
        exact sched_end (Hf.out 0 _ _ rfl)
      · have c : X.cell? ⟨w.heap.size + 1 + 1 + 1 + 1, 1, none⟩ = some (.int .u8 0) := hF2.cell 1
        have f := hF2.free 1
        have cf : X.cell? ⟨w.heap.size + 1 + 1, 0, none⟩ = some (.func (.func gc) #[] cap) := (k2.grew hG2 (by simp <;> omega)).cell 0
        have co : X.cell? ⟨w.heap.size + 1 + 1 + 1 + 1 + 1, 1, none⟩ = some (.int .i64 g') := (k5.grew hG2 (by simp <;> omega)).cell 1
        have Hf := Lib.hid fin; clear fin
        have hcall := Hc.out g g' X.drew (by omega) (by omega) (by omega) (by omega) hbX.drew
        have en' : ∀ args w, (callFunc gc args).run Try.prog w = .ok (.enter gc args) w := en
        gi_wp2
        refine wpIn_region_sched [(0, false), (1, false), (2, false), (3, false), (4, false), (5, false), (6, true), (7, false), (8, true)] (fun Y => Y.cell? ⟨w.heap.size + 1 + 1, 0, none⟩ = some (.func (.func gc) #[] cap) ∧ Y.cell? ⟨w.heap.size + 1 + 1 + 1 + 1 + 1, 1, none⟩ = some (.int .i64 g')) (by kernel_rfl) (by kernel_rfl) (by kernel_rfl) ⟨cf, co⟩ ?_
        repeat (refine sched_pure (v := ?_) rfl rfl ?_ ?_; rotate_left; (focus (intro Y hY; go_simp; try with_reducible rfl)); go_simp)
        refine sched_act rfl rfl ?_
        go_simp
        refine hcall.mono ?_
        rintro e w' ⟨rfl, rfl⟩
        refine ⟨⟨cf, co⟩, ?_⟩
        go_simp
        repeat (refine sched_pure (v := ?_) rfl rfl ?_ ?_; rotate_left; (focus (intro Y hY; go_simp; try with_reducible rfl)); go_simp)
        refine sched_act rfl rfl ?_
        go_simp
        exact sched_end (Hf.out 1 _ _ rfl)
      · have c : X.cell? ⟨w.heap.size + 1 + 1 + 1 + 1, 2, none⟩ = some (.int .u8 0) := hF2.cell 2
        have f := hF2.free 2
        have cf : X.cell? ⟨w.heap.size + 1 + 1, 0, none⟩ = some (.func (.func gc) #[] cap) := (k2.grew hG2 (by simp <;> omega)).cell 0
        have co : X.cell? ⟨w.heap.size + 1 + 1 + 1 + 1 + 1, 2, none⟩ = some (.int .i64 b') := (k5.grew hG2 (by simp <;> omega)).cell 2
        have Hf := Lib.hid fin; clear fin
        have hcall := Hc.out b b' X.drew (by omega) (by omega) (by omega) (by omega) hbX.drew
        have en' : ∀ args w, (callFunc gc args).run Try.prog w = .ok (.enter gc args) w := en
        gi_wp2
        refine wpIn_region_sched [(0, false), (1, false), (2, false), (3, false), (4, false), (5, false), (6, true), (7, false), (8, true)] (fun Y => Y.cell? ⟨w.heap.size + 1 + 1, 0, none⟩ = some (.func (.func gc) #[] cap) ∧ Y.cell? ⟨w.heap.size + 1 + 1 + 1 + 1 + 1, 2, none⟩ = some (.int .i64 b')) (by kernel_rfl) (by kernel_rfl) (by kernel_rfl) ⟨cf, co⟩ ?_
        repeat (refine sched_pure (v := ?_) rfl rfl ?_ ?_; rotate_left; (focus (intro Y hY; go_simp; try with_reducible rfl)); go_simp)
        refine sched_act rfl rfl ?_
        go_simp
        refine hcall.mono ?_
        rintro e w' ⟨rfl, rfl⟩
        refine ⟨⟨cf, co⟩, ?_⟩
        go_simp
        repeat (refine sched_pure (v := ?_) rfl rfl ?_ ?_; rotate_left; (focus (intro Y hY; go_simp; try with_reducible rfl)); go_simp)
        refine sched_act rfl rfl ?_
        go_simp
        exact sched_end (Hf.out 2 _ _ rfl)
      · have c : X.cell? ⟨w.heap.size + 1 + 1 + 1 + 1, 3, none⟩ = some (.int .u8 0) := hF2.cell 3
        have f := hF2.free 3
        have cf : X.cell? ⟨w.heap.size + 1 + 1, 0, none⟩ = some (.func (.func gc) #[] cap) := (k2.grew hG2 (by simp <;> omega)).cell 0
        have co : X.cell? ⟨w.heap.size + 1 + 1 + 1 + 1 + 1, 3, none⟩ = some (.int .i64 a') := (k5.grew hG2 (by simp <;> omega)).cell 3
        have Hf := Lib.hid fin; clear fin
        have hcall := Hc.out a a' X.drew (by omega) (by omega) (by omega) (by omega) hbX.drew
        have en' : ∀ args w, (callFunc gc args).run Try.prog w = .ok (.enter gc args) w := en
        gi_wp2
        refine wpIn_region_sched [(0, false), (1, false), (2, false), (3, false), (4, false), (5, false), (6, true), (7, false), (8, true)] (fun Y => Y.cell? ⟨w.heap.size + 1 + 1, 0, none⟩ = some (.func (.func gc) #[] cap) ∧ Y.cell? ⟨w.heap.size + 1 + 1 + 1 + 1 + 1, 3, none⟩ = some (.int .i64 a')) (by kernel_rfl) (by kernel_rfl) (by kernel_rfl) ⟨cf, co⟩ ?_
        repeat (refine sched_pure (v := ?_) rfl rfl ?_ ?_; rotate_left; (focus (intro Y hY; go_simp; try with_reducible rfl)); go_simp)
        refine sched_act rfl rfl ?_
        go_simp
        refine hcall.mono ?_
        rintro e w' ⟨rfl, rfl⟩
        refine ⟨⟨cf, co⟩, ?_⟩
        go_simp
        repeat (refine sched_pure (v := ?_) rfl rfl ?_ ?_; rotate_left; (focus (intro Y hY; go_simp; try with_reducible rfl)); go_simp)
        refine sched_act rfl rfl ?_
        go_simp
        exact sched_end (Hf.out 3 _ _ rfl)
    case done2 =>
      intro D2 X hD2 ⟨hG2, hF2⟩ hK2
      have k3' := k3.grew hG2 (by simp <;> omega)
      have c0 : X.cell? ⟨w.heap.size + 1 + 1 + 1 + 1, 0, none⟩ = some (.int .u8 (mk r r')) := hF2.cell 0
      have c1 : X.cell? ⟨w.heap.size + 1 + 1 + 1 + 1, 1, none⟩ = some (.int .u8 (mk g g')) := hF2.cell 1
      have c2 : X.cell? ⟨w.heap.size + 1 + 1 + 1 + 1, 2, none⟩ = some (.int .u8 (mk b b')) := hF2.cell 2
      have c3 : X.cell? ⟨w.heap.size + 1 + 1 + 1 + 1, 3, none⟩ = some (.int .u8 (mk a a')) := hF2.cell 3
      have d0 : X.cell? ⟨w.heap.size + 1 + 1 + 1, 0, none⟩ = some (.int .u8 0) := k3'.cell 0
      have d1 : X.cell? ⟨w.heap.size + 1 + 1 + 1, 1, none⟩ = some (.int .u8 0) := k3'.cell 1
      have d2 : X.cell? ⟨w.heap.size + 1 + 1 + 1, 2, none⟩ = some (.int .u8 0) := k3'.cell 2
      have d3 : X.cell? ⟨w.heap.size + 1 + 1 + 1, 3, none⟩ = some (.int .u8 0) := k3'.cell 3
      have f0 := k3'.free 0
      have f1 := k3'.free 1
      have f2 := k3'.free 2
      have f3 := k3'.free 3
      have Hsz2 := Lib.hid hsz; have Hv := Lib.hid vsz; clear hsz vsz
      go_wp2
      have hsz := Hsz2.out; have vsz := Hv.out
      have kD' := kD.grew hG2 (by simp <;> omega)
      have hs := hG2.size
      have kz := (((k3'.set 0 (.int .u8 (mk r r'))).set 1 (.int .u8 (mk g g'))).set 2 (.int .u8 (mk b b'))).set 3 (.int .u8 (mk a a'))
      have kE2 := (((hK2.other (a := ⟨w.heap.size + 1 + 1 + 1, 0, none⟩) (.int .u8 (mk r r')) (by simp; omega)).other (a := ⟨w.heap.size + 1 + 1 + 1, 1, none⟩) (.int .u8 (mk g g')) (by simp; omega)).other (a := ⟨w.heap.size + 1 + 1 + 1, 2, none⟩) (.int .u8 (mk b b')) (by simp; omega)).other (a := ⟨w.heap.size + 1 + 1 + 1, 3, none⟩) (.int .u8 (mk a a')) (by simp; omega)
      have kE := (((kD'.other (a := ⟨w.heap.size + 1 + 1 + 1, 0, none⟩) (.int .u8 (mk r r')) (by simp; omega)).other (a := ⟨w.heap.size + 1 + 1 + 1, 1, none⟩) (.int .u8 (mk g g')) (by simp; omega)).other (a := ⟨w.heap.size + 1 + 1 + 1, 2, none⟩) (.int .u8 (mk b b')) (by simp; omega)).other (a := ⟨w.heap.size + 1 + 1 + 1, 3, none⟩) (.int .u8 (mk a a')) (by simp; omega)
      have bX : Below w.heap.size w X := bV.trans (hG2.below (by omega) (by simp; omega))
      have bZ := (((bX.setCell (p := ⟨w.heap.size + 1 + 1 + 1, 0, none⟩) (by simp; omega) (.int .u8 (mk r r'))).setCell (p := ⟨w.heap.size + 1 + 1 + 1, 1, none⟩) (by simp; omega) (.int .u8 (mk g g'))).setCell (p := ⟨w.heap.size + 1 + 1 + 1, 2, none⟩) (by simp; omega) (.int .u8 (mk b b'))).setCell (p := ⟨w.heap.size + 1 + 1 + 1, 3, none⟩) (by simp; omega) (.int .u8 (mk a a'))
      generalize hZ : World.setCell _ _ _ = Z at *
      clear hZ
      have hne : D ≠ D2 := by have := kD.lt; omega
      refine leaves_mark kE2 (leaves_mark (kE.putOther _ hne) (leaves_end ?_ ⟨rfl, ?_⟩))
      · have kw := (kz.putOther (.deferred none) (l := D2) (by omega)).putOther (.deferred none) (l := D) (by omega)
        have e0 := kw.cell 0
        have e1 := kw.cell 1
        have e2 := kw.cell 2
        have e3 := kw.cell 3
        simp at e0 e1 e2 e3
        simp [results, Try.f38, go_sem, e0, e1, e2, e3]
      · exact belowK_b (w := w) (Nat.le_refl _) _ _ _ _ (by omega) (kE.putOther _ hne) rfl rfl |> (belowK_b (w := w) (Nat.le_refl _) _ _ _ _ (by omega) kE2 rfl rfl |> bZ.trans).trans
end Go.Proofs.Ytnladfpckejogaa
