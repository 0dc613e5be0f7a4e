/- Walks: are two rows of colours the same? -/
import Derived.Test.YtedckelfdkfkoaaJ
namespace Go.Proofs.Ytedckelfdkfkoaa
open Go.RowKit Go.Shelf
attribute [local go_sem] Oper.semAt_some
attribute [local go_sem 2000] run_col
attribute [local go_sem] colB_self

set_option maxRecDepth 100000 in
set_option maxHeartbeats 1000000 in
theorem equal_any (a1 a2 : Option Addr) (x1 x2 : Nat) (l1 l2 : List Col) (w : World) (h1 : ColRow w a1 l1) (h2 : ColRow w a2 l2) :
    Calls Try.prog 25 #[.slice a1 l1.length x1, .slice a2 l2.length x2] w fun e w' => e = .returned (.bool (decide (l1 = l2))) ∧ Below w.heap.size w w' := by
  have n1 := h1.len
  have n2 := h2.len
  unfold maxLen at n1 n2
  generalize hm1 : l1.length = m1 at *
  generalize hm2 : l2.length = m2 at *
  have A := Lib.hid (And.intro hm1 (And.intro hm2 (And.intro h1 h2)))
  clear hm1 hm2 h1 h2
  by_cases hl : m1 = m2
  · subst hl
    go_enter Try.func25, Try.ntmps25
    go_wp2
    go_loopg [13] m1 (fun n i wr => ∃ k : Nat, k ≤ m1 ∧ n = m1 - k ∧ i = .int .i64 k ∧ (∀ j : Nat, j < k → l1[j]? = l2[j]?) ∧ Below w.heap.size w wr)
    case atStart => exact ⟨0, by omega, by omega, rfl, fun j hj => by omega, Below.refl _ _⟩
    case round =>
      obtain ⟨k, hk, hn, rfl, he, hb⟩ := hrel
      by_cases hlt : k < m1
      · obtain ⟨hm1, hm2, h1, h2⟩ := A.out
        obtain ⟨c, hc⟩ : ∃ c, l1[k]? = some c := ⟨_, List.getElem?_eq_getElem (by omega)⟩
        obtain ⟨d, hd⟩ : ∃ c, l2[k]? = some c := ⟨_, List.getElem?_eq_getElem (by omega)⟩
        obtain ⟨p1, rfl, q1⟩ := (h1.below hb).at_ k c hc
        obtain ⟨p2, rfl, q2⟩ := (h2.below hb).at_ k d hd
        obtain ⟨c0, c1, c2, c3⟩ := c
        obtain ⟨d0, d1, d2, d3⟩ := d
        unfold ColAt at q1 q2
        simp only [] at q1 q2
        have B := Lib.hid (And.intro hn (And.intro he (And.intro hc hd)))
        clear hn he hc hd hm1 hm2 h1 h2
        have lt4 : k * 4 + 3 < (m1 : Nat) * 4 := by omega
        cases hcol : colB c0 c1 c2 c3 d0 d1 d2 d3 with
        | true =>
          go_wp2
          refine wp_region_sched [(0, false), (1, false), (2, false), (3, false), (4, false), (5, false), (6, false), (7, false), (8, false)] (fun Y => (ColAt Y (p1.add (k * 4)) (c0, c1, c2, c3)) ∧ ColAt Y (p2.add (k * 4)) (d0, d1, d2, d3)) (by kernel_rfl) (by kernel_rfl) ⟨q1, q2⟩ ?_
          repeat (refine sched_pure (v := ?_) rfl rfl ?_ ?_; rotate_left; (focus (intro Y hY; unfold ColAt at hY; go_simp; try with_reducible rfl)); go_simp; try go_bits)
          refine sched_end ?_
          go_wp2
          go_roundg (m1 - (k + 1))
          case measure => have := B.out.1; omega
          case rel =>
            refine ⟨k + 1, hlt, rfl, rfl, fun j hj => ?_, hb.drew⟩
            rcases Nat.lt_or_ge j k with h | h
            · exact B.out.2.1 j h
            · obtain rfl : j = k := by omega
              obtain ⟨rfl, rfl, rfl, rfl⟩ := colB_true hcol
              rw [B.out.2.2.1, B.out.2.2.2]
        | false =>
          go_wp2
          refine wp_region_sched [(0, false), (1, false), (2, false), (3, false), (4, false), (5, false), (6, false), (7, false), (8, false)] (fun Y => (ColAt Y (p1.add (k * 4)) (c0, c1, c2, c3)) ∧ ColAt Y (p2.add (k * 4)) (d0, d1, d2, d3)) (by kernel_rfl) (by kernel_rfl) ⟨q1, q2⟩ ?_
          repeat (refine sched_pure (v := ?_) rfl rfl ?_ ?_; rotate_left; (focus (intro Y hY; unfold ColAt at hY; go_simp; try with_reducible rfl)); go_simp; try go_bits)
          refine sched_end ?_
          go_wp2
          go_ret
          refine ⟨congrArg (fun b => Ending.returned (Value.bool b)) (Eq.symm (decide_eq_false fun e => ?_)), hb.drew⟩
          subst e
          have hh := B.out.2.2.1.symm.trans B.out.2.2.2
          simp only [Option.some.injEq, Prod.mk.injEq] at hh
          obtain ⟨rfl, rfl, rfl, rfl⟩ := hh
          rw [colB_self] at hcol
          cases hcol
      · have hk : k = m1 := by omega
        have B := Lib.hid he
        clear he
        go_wp2
        go_ret
        refine ⟨congrArg (fun b => Ending.returned (Value.bool b)) (Eq.symm (decide_eq_true ?_)), hb⟩
        apply List.ext_getElem?
        intro j
        rcases Nat.lt_or_ge j m1 with h | h
        · exact B.out j (by omega)
        · rw [List.getElem?_eq_none (by rw [A.out.1]; exact h), List.getElem?_eq_none (by rw [A.out.2.1]; exact h)]
  · have Hl := Lib.hid hl
    have hb : ((m1 : Int) != m2) = true := by simp; omega
    clear hl
    go_enter Try.func25, Try.ntmps25
    go_wp2
    go_ret
    refine ⟨congrArg (fun b => Ending.returned (Value.bool b)) (Eq.symm (decide_eq_false fun e => Hl.out (by rw [← A.out.1, ← A.out.2.1, e]))), Below.refl _ _⟩
end Go.Proofs.Ytedckelfdkfkoaa
