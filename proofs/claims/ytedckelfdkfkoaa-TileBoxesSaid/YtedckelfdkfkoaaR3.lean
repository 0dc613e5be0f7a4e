/- Walks of the document: the least box. -/
import Derived.Test.YtedckelfdkfkoaaH
import Derived.Test.YtedckelfdkfkoaaB
namespace Go.Proofs.Ytedckelfdkfkoaa
open Go.RowKit Go.Shelf
attribute [local go_sem] Oper.semAt_some
attribute [local go_sem 2000] run_col run_tile
attribute [local go_sem ↓] zero25 build25 build176z build176 load25 store25
attribute [local go_sem] rowAt_alloc rowFree_alloc rowAt_drew rowFree_drew rowAt_alloc_map zeroA_size zc176 zeroA_ones blkOf_ptr aggOf_agg

/-- one more place, as the document tells it -/
def rboxStep (T T' : List Col) (s : Col × Bool) (p : Int × Int) : Col × Bool :=
  if atT T (p.2 * 8 + p.1).toNat = atT T' (p.2 * 8 + p.1).toNat then s
  else ((if p.1 < (if s.2 = true then s.1.1 else p.1) then p.1 else (if s.2 = true then s.1.1 else p.1), (if s.2 = true then s.1.2.1 else p.2),
    if (if s.2 = true then s.1.2.2.1 else p.1) < p.1 then p.1 else (if s.2 = true then s.1.2.2.1 else p.1), p.2), true)
def rboxV (T T' : List Col) : Col × Bool := placesL.foldl (rboxStep T T') ((0, 0, 0, 0), false)

def Til2 (n : Nat) (T T' : List Col) (Y : World) : Prop := Has Y n (.cells (tileA T) 25 (0, 0)) ∧ Has Y (n + 1) (.cells (tileA T') 25 (0, 0))

set_option maxRecDepth 100000 in
set_option maxHeartbeats 2000000 in
theorem rbox_any (T T' : List Col) (w : World) (hT : T.length = 64) (hT' : T'.length = 64) :
    Calls Try.prog 33 #[.agg (tileA T), .agg (tileA T')] w fun e w' => e = .returned (boxR (rboxV T T')) ∧ Below w.heap.size w w' := by
  have hs : (tileA T).size = 256 := by rw [tileA_size, hT]
  have hs' : (tileA T').size = 256 := by rw [tileA_size, hT']
  have HT := Lib.hid (And.intro hT hT')
  clear hT hT'
  go_enter Try.func33, Try.ntmps33
  go_wp2
  generalize hX : World.alloc _ _ = X
  have sz : X.heap.size = w.heap.size + 4 := by rw [← hX]; simp
  have x0 : Has X w.heap.size (.cells (tileA T) 25 (0, 0)) := by rw [← hX]; exact (((Has.new' (by simp)).alloc _).alloc _).alloc _
  have x1 : Has X (w.heap.size + 1) (.cells (tileA T') 25 (0, 0)) := by rw [← hX]; exact ((Has.new' (by simp)).alloc _).alloc _
  have x2 : Has X (w.heap.size + 1 + 1) (.cells #[.int .i64 0, .int .i64 0, .int .i64 0, .int .i64 0] 33 (0, 0)) := by rw [← hX]; exact (Has.new' (by simp)).alloc _
  have x3 : Has X (w.heap.size + 1 + 1 + 1) (.cells (box4 (0, 0, 0, 0)) 33 (0, 0)) := by rw [← hX]; exact Has.new' (by simp)
  have b0 : Below w.heap.size w X := by rw [← hX]; repeat (first | exact Below.refl _ _ | refine Below.alloc ?_ (by simp <;> omega) _)
  clear hX
  have HX := Lib.hid (And.intro x0 (And.intro x1 (And.intro x2 (And.intro b0 sz))))
  go_loopg [7, 11] 8 (fun n v i wr => ∃ b : Nat, b ≤ 8 ∧ n = 8 - b ∧ i = .int .i64 b ∧ v = .bool (((placesL.take (b * 8)).foldl (rboxStep T T') ((0, 0, 0, 0), false) : Col × Bool)).2 ∧ Hid (Grew [w.heap.size + 1 + 1 + 1] X wr ∧ Has wr (w.heap.size + 1 + 1 + 1) (.cells (box4 ((placesL.take (b * 8)).foldl (rboxStep T T') ((0, 0, 0, 0), false) : Col × Bool).1) 33 (0, 0))))
  case atStart => exact ⟨0, by omega, by omega, rfl, rfl, Lib.hid ⟨Grew.refl _ _, x3⟩⟩
  case round =>
    clear x0 x1 x2 x3 b0 sz
    obtain ⟨b, hb, hn, rfl, rfl, hj⟩ := hrel
    by_cases hlt : b < 8
    · have HN := Lib.hid hn
      clear hn
      have hd : decide ((b : Int) < 8) = true := by simp; omega
      obtain ⟨B, hB⟩ : ∃ B, ((placesL.take (b * 8)).foldl (rboxStep T T') ((0, 0, 0, 0), false) : Col × Bool) = B := ⟨_, rfl⟩
      rw [hB] at hj ⊢
      have HB := Lib.hid hB
      clear hB
      go_wp2
      clear hd
      obtain ⟨wo, rfl⟩ : ∃ wo : World, wo = wr := ⟨_, rfl⟩
      go_loopg [7, 14] 8 (fun n v i wr => ∃ a : Nat, a ≤ 8 ∧ n = 8 - a ∧ i = .int .i64 a ∧ v = .bool (((placesL.take (b * 8 + a)).foldl (rboxStep T T') ((0, 0, 0, 0), false) : Col × Bool)).2 ∧ Hid (Grew [w.heap.size + 1 + 1 + 1] X wr ∧ Has wr (w.heap.size + 1 + 1 + 1) (.cells (box4 ((placesL.take (b * 8 + a)).foldl (rboxStep T T') ((0, 0, 0, 0), false) : Col × Bool).1) 33 (0, 0))))
      case atStart => exact ⟨0, by omega, by omega, rfl, by rw [Nat.add_zero, HB.out], by have h := hj; rw [← HB.out] at h; exact h⟩
      case round =>
        clear hj
        obtain ⟨a, ha, hn, rfl, rfl, hj⟩ := hrel
        by_cases hla : a < 8
        · have hx : placesL[b * 8 + a]? = some ((a : Int), (b : Int)) := by
            rw [placesL_at (by omega), show (b * 8 + a) % 8 = a by omega, show (b * 8 + a) / 8 = b by omega]
          have e1 : ((placesL.take (b * 8 + (a + 1))).foldl (rboxStep T T') ((0, 0, 0, 0), false) : Col × Bool) = rboxStep T T' ((placesL.take (b * 8 + a)).foldl (rboxStep T T') ((0, 0, 0, 0), false)) ((a : Int), (b : Int)) := by
            rw [← Nat.add_assoc, ← take_snoc hx, List.foldl_append]; rfl
          obtain ⟨D, hD⟩ : ∃ D, ((placesL.take (b * 8 + a)).foldl (rboxStep T T') ((0, 0, 0, 0), false) : Col × Bool) = D := ⟨_, rfl⟩
          rw [hD] at hj e1 ⊢
          have hk : ((b : Int) * 8 + (a : Int)).toNat = 8 * b + a := by omega
          have e2 : rboxStep T T' D ((a : Int), (b : Int)) = if atT T (8 * b + a) = atT T' (8 * b + a) then D
            else ((if (a : Int) < (if D.2 = true then D.1.1 else (a : Int)) then (a : Int) else (if D.2 = true then D.1.1 else (a : Int)), (if D.2 = true then D.1.2.1 else (b : Int)),
              if (if D.2 = true then D.1.2.2.1 else (a : Int)) < (a : Int) then (a : Int) else (if D.2 = true then D.1.2.2.1 else (a : Int)), (b : Int)), true) := by
            unfold rboxStep; simp only [hk]
          rw [e2] at e1
          have HN2 := Lib.hid (And.intro hn e1)
          have hS : Til2 w.heap.size T T' wr := ⟨HX.out.1.grew hj.out.1 (by simp <;> omega), HX.out.2.1.grew hj.out.1 (by simp <;> omega)⟩
          clear hn e1 e2 hD hx hk
          obtain ⟨⟨D0, D1, D2, D3⟩, ok⟩ := D
          go_wp2_with (fail)
          refine wp_region_sched [(0, false), (1, false), (2, false), (4, false), (5, false), (6, false), (3, true), (7, true), (8, false)] (Til2 w.heap.size T T') (by kernel_rfl) (by kernel_rfl) hS ?_
          refine sched_pure (v := .agg (tileA T)) rfl rfl (fun Y hY => exec_tile hY.1.row hs rfl) ?_
          go_simp
          repeat (refine sched_pure (v := ?_) rfl rfl ?_ ?_; rotate_left; (focus (intro Y hY; go_simp; try with_reducible rfl)); go_simp; try go_bits)
          refine sched_pure (v := .agg (tileA T')) rfl rfl (fun Y hY => exec_tile hY.2.row hs' rfl) ?_
          go_simp
          repeat (refine sched_pure (v := ?_) rfl rfl ?_ ?_; rotate_left; (focus (intro Y hY; go_simp; try with_reducible rfl)); go_simp; try go_bits)
          refine sched_act rfl rfl ?_
          go_simp
          refine (rat_any T a b _ HT.out.1 hla hlt).mono ?_
          rintro e w2 ⟨rfl, b2⟩
          have y1 : Til2 w.heap.size T T' w2 := ⟨hS.1.drew.below b2 hS.1.lt, hS.2.drew.below b2 hS.2.lt⟩
          refine ⟨y1, ?_⟩
          refine sched_act rfl rfl ?_
          go_simp
          refine (rat_any T' a b _ HT.out.2 hla hlt).mono ?_
          rintro e w3 ⟨rfl, b3⟩
          have y2 : Til2 w.heap.size T T' w3 := ⟨y1.1.below b3 y1.1.lt, y1.2.below b3 y1.2.lt⟩
          refine ⟨y2, ?_⟩
          obtain ⟨c, hc⟩ : ∃ c, atT T (8 * b + a) = c := ⟨_, rfl⟩
          obtain ⟨d, hd⟩ : ∃ c, atT T' (8 * b + a) = c := ⟨_, rfl⟩
          rw [hc, hd]
          have hF := (hj.out.2.drew.below b2 hj.out.2.lt).below b3 (hj.out.2.drew.below b2 hj.out.2.lt).lt
          have hG := (hj.out.1.drew.trans (below_grew b2 [w.heap.size + 1 + 1 + 1])).trans (below_grew b3 [w.heap.size + 1 + 1 + 1])
          obtain ⟨c0, c1, c2, c3⟩ := c
          obtain ⟨d0, d1, d2, d3⟩ := d
          have f0 := hF.four
          have f1 := hF.free4
          have e1 := HN2.out.2
          rw [hc, hd] at e1
          have HN3 := Lib.hid (And.intro HN2.out.1 (And.intro e1 (And.intro hG hF)))
          clear HN2 e1 hG hF hc hd y1 y2 b2 b3 hj hS
          repeat (refine sched_pure (v := ?_) rfl rfl ?_ ?_; rotate_left; (focus (intro Y hY; go_simp; try with_reducible rfl)); go_simp; try go_bits)
          refine sched_end ?_
          cases hcb : colB c0 c1 c2 c3 d0 d1 d2 d3 with
          | true =>
            have HC := Lib.hid hcb
            clear hcb
            go_wp2
            obtain ⟨hn, e1, hG, hF⟩ := HN3.out
            rw [if_pos (by have := HC.out; rw [colB_eq'] at this; exact of_decide_eq_true this)] at e1
            go_roundg (8 - (a + 1))
            case measure => omega
            case rel => exact ⟨a + 1, by omega, rfl, by go_num, by rw [e1], Lib.hid ⟨hG, by rw [e1]; exact hF⟩⟩
          | false =>
            have HC := Lib.hid hcb
            clear hcb
            cases ok with
            | false =>
              go_wp2
              obtain ⟨hn, e1, hG, hF⟩ := HN3.out
              rw [if_neg (by have := HC.out; rw [colB_eq'] at this; exact of_decide_eq_false this)] at e1
              simp only [Bool.false_eq_true, if_false, Int.lt_irrefl] at e1
              go_roundg (8 - (a + 1))
              case measure => omega
              case rel =>
                refine ⟨a + 1, by omega, rfl, by go_num, by rw [e1], Lib.hid ⟨?_, ?_⟩⟩
                · repeat (first | exact hG | refine Grew.setCell ?_ _ (.inl (by simp)))
                · rw [e1]; exact (hF.put4 _ _ _ _).set 3 _
            | true =>
              by_cases h0 : (a : Int) < D0
              · by_cases h2 : D2 < (a : Int)
                · go_wp2
                  obtain ⟨hn, e1, hG, hF⟩ := HN3.out
                  rw [if_neg (by have := HC.out; rw [colB_eq'] at this; exact of_decide_eq_false this)] at e1
                  simp only [if_true, if_pos h0, if_pos h2] at e1
                  go_roundg (8 - (a + 1))
                  case measure => omega
                  case rel =>
                    refine ⟨a + 1, by omega, rfl, by go_num, by rw [e1], Lib.hid ⟨?_, ?_⟩⟩
                    · repeat (first | exact hG | refine Grew.setCell ?_ _ (.inl (by simp)))
                    · rw [e1]; exact ((hF.set 0 _).set 2 _).set 3 _
                · go_wp2
                  obtain ⟨hn, e1, hG, hF⟩ := HN3.out
                  rw [if_neg (by have := HC.out; rw [colB_eq'] at this; exact of_decide_eq_false this)] at e1
                  simp only [if_true, if_pos h0, if_neg (show ¬ D2 < (a : Int) by omega)] at e1
                  go_roundg (8 - (a + 1))
                  case measure => omega
                  case rel =>
                    refine ⟨a + 1, by omega, rfl, by go_num, by rw [e1], Lib.hid ⟨?_, ?_⟩⟩
                    · repeat (first | exact hG | refine Grew.setCell ?_ _ (.inl (by simp)))
                    · rw [e1]; exact (hF.set 0 _).set 3 _
              · by_cases h2 : D2 < (a : Int)
                · go_wp2
                  obtain ⟨hn, e1, hG, hF⟩ := HN3.out
                  rw [if_neg (by have := HC.out; rw [colB_eq'] at this; exact of_decide_eq_false this)] at e1
                  simp only [if_true, if_neg (show ¬ (a : Int) < D0 by omega), if_pos h2] at e1
                  go_roundg (8 - (a + 1))
                  case measure => omega
                  case rel =>
                    refine ⟨a + 1, by omega, rfl, by go_num, by rw [e1], Lib.hid ⟨?_, ?_⟩⟩
                    · repeat (first | exact hG | refine Grew.setCell ?_ _ (.inl (by simp)))
                    · rw [e1]; exact (hF.set 2 _).set 3 _
                · go_wp2
                  obtain ⟨hn, e1, hG, hF⟩ := HN3.out
                  rw [if_neg (by have := HC.out; rw [colB_eq'] at this; exact of_decide_eq_false this)] at e1
                  simp only [if_true, if_neg (show ¬ (a : Int) < D0 by omega), if_neg (show ¬ D2 < (a : Int) by omega)] at e1
                  go_roundg (8 - (a + 1))
                  case measure => omega
                  case rel =>
                    refine ⟨a + 1, by omega, rfl, by go_num, by rw [e1], Lib.hid ⟨?_, ?_⟩⟩
                    · repeat (first | exact hG | refine Grew.setCell ?_ _ (.inl (by simp)))
                    · rw [e1]; exact hF.set 3 _
        · obtain rfl : a = 8 := by omega
          clear hn
          rw [show b * 8 + 8 = (b + 1) * 8 by omega] at hj ⊢
          go_wp2
          go_roundg (8 - (b + 1))
          case measure => have := HN.out; omega
          case rel => exact ⟨b + 1, by omega, rfl, by go_num, rfl, hj⟩
    · obtain rfl : b = 8 := by omega
      obtain ⟨hG, hF⟩ := hj.out
      rw [List.take_of_length_le (by rw [placesL_length]; omega)] at hF ⊢
      have hV : (placesL.foldl (rboxStep T T') ((0, 0, 0, 0), false) : Col × Bool) = rboxV T T' := rfl
      rw [hV] at hF ⊢
      clear hV
      obtain ⟨V, hV⟩ : ∃ V, rboxV T T' = V := ⟨_, rfl⟩
      rw [hV] at hF ⊢
      have HV := Lib.hid hV
      clear hV
      obtain ⟨⟨B0, B1, B2, B3⟩, ok⟩ := V
      obtain ⟨x0, x1, x2, b0, sz⟩ := HX.out
      have e3 := hF.four
      have y2 := x2.grew hG (by simp <;> omega)
      have e2 := y2.four
      have f2 := y2.free4
      have H := Lib.hid (And.intro hG (And.intro y2 (And.intro b0 sz)))
      clear hG hF y2 b0 sz x0 x1 x2 hn
      go_wp2
      obtain ⟨hG, y2, b0, sz⟩ := H.out
      have z := (y2.put4 (.int .i64 B0) (.int .i64 B1) (.int .i64 B2) (.int .i64 B3)).four
      have bW := below_put4 (b0.trans (hG.below (by omega) (by simp; omega))) (r := w.heap.size + 1 + 1) (by omega) (.int .i64 B0) (.int .i64 B1) (.int .i64 B2) (.int .i64 B3)
      exact bodyPost_ret (v := boxR ((B0, B1, B2, B3), ok)) (by simp [results, Try.f33, go_sem, z]) rfl ⟨by rw [HV.out], bW⟩
end Go.Proofs.Ytedckelfdkfkoaa
