/- Walks: do rows of tiles, and what canvases show, agree? -/
import Derived.Test.YtedckelfdkfkoaaCg
namespace Go.Proofs.Ytedckelfdkfkoaa
open Go.RowKit Go.Shelf
attribute [local go_sem] Oper.semAt_some
attribute [local go_sem 2000] run_col run_tile
attribute [local go_sem ↓] Go.wp_at_zero Go.wp_at_succ
attribute [local go_sem ↓] zero25 build25 build176z build176 load25 store25
attribute [local go_sem] World.setRow_alloc_new
attribute [local go_sem] rowAt_alloc rowFree_alloc rowAt_drew rowFree_drew zeroA_size zc176 zeroA_ones blkOf_ptr aggOf_agg

set_option maxRecDepth 100000 in
set_option maxHeartbeats 1000000 in
theorem eqt_any (a1 a2 : Option Addr) (x1 x2 : Nat) (l1 l2 : List (List Col)) (w : World) (h1 : TilRow w a1 l1) (h2 : TilRow w a2 l2) :
    Calls Try.prog 151 #[.slice a1 l1.length x1, .slice a2 l2.length x2] w fun e w' => e = .returned (.bool (decide (l1 = l2))) ∧ Below w.heap.size w w' := by
  have n1 := h1.len
  have n2 := h2.len
  unfold maxLen at n1 n2
  generalize hm1 : l1.length = m1 at *
  generalize hm2 : l2.length = m2 at *
  have A := Lib.hid (And.intro hm1 (And.intro hm2 (And.intro h1 h2)))
  clear hm1 hm2 h1 h2
  by_cases hl : m1 = m2
  · subst hl
    go_enter Try.func151, Try.ntmps151
    go_wp2
    go_loopg [13] m1 (fun n i wr => ∃ k : Nat, k ≤ m1 ∧ n = m1 - k ∧ i = .int .i64 k ∧ (∀ j : Nat, j < k → l1[j]? = l2[j]?) ∧ Since w wr)
    case atStart => exact ⟨0, by omega, by omega, rfl, fun j hj => by omega, Since.refl _⟩
    case round =>
      obtain ⟨k, hk, hn, rfl, he, hb⟩ := hrel
      by_cases hlt : k < m1
      · obtain ⟨hm1, hm2, h1, h2⟩ := A.out
        obtain ⟨T, hT⟩ : ∃ T, l1[k]? = some T := ⟨_, List.getElem?_eq_getElem (by omega)⟩
        obtain ⟨T', hT'⟩ : ∃ T, l2[k]? = some T := ⟨_, List.getElem?_eq_getElem (by omega)⟩
        obtain ⟨p1, rfl, q1⟩ := (h1.since hb).at_ k T hT
        obtain ⟨p2, rfl, q2⟩ := (h2.since hb).at_ k T' hT'
        have lT := h1.l64 T (List.mem_of_getElem? hT)
        have lT' := h2.l64 T' (List.mem_of_getElem? hT')
        have B := Lib.hid (And.intro hn (And.intro he (And.intro hT (And.intro hT' (And.intro q1 q2)))))
        clear hn he hT hT' hm1 hm2 h1 h2 q1 q2
        have lt4 : k * 256 + 255 < (m1 : Nat) * 256 := by omega
        by_cases hcol : T = T'
        · subst hcol
          go_wp2
          refine wp_region_sched [(0, false), (1, false), (2, false), (3, false), (4, false), (5, false), (6, false), (7, false), (8, false)] (Since wr) (by kernel_rfl) (by kernel_rfl) (Since.refl wr).drew ?_
          repeat (refine sched_pure (v := ?_) rfl rfl ?_ ?_; rotate_left; (focus (intro Y hY; first | (refine (exec_til (B.out.2.2.2.2.1.since hY) lT rfl).trans ?_; with_reducible rfl) | (refine (exec_til (B.out.2.2.2.2.2.since hY) lT rfl).trans ?_; with_reducible rfl) | (go_simp; try with_reducible rfl))); go_simp; try go_bits)
          refine sched_end ?_
          go_wp2
          go_roundg (m1 - (k + 1))
          case measure => have := B.out.1; omega
          case rel =>
            refine ⟨k + 1, hlt, rfl, rfl, fun j hj => ?_, hb.drew⟩
            rcases Nat.lt_or_ge j k with h | h
            · exact B.out.2.1 j h
            · obtain rfl : j = k := by omega
              rw [B.out.2.2.1, B.out.2.2.2.1]
        · have hd : decide (T = T') = false := decide_eq_false hcol
          have HC := Lib.hid hcol
          go_wp2
          refine wp_region_sched [(0, false), (1, false), (2, false), (3, false), (4, false), (5, false), (6, false), (7, false), (8, false)] (Since wr) (by kernel_rfl) (by kernel_rfl) (Since.refl wr).drew ?_
          repeat (refine sched_pure (v := ?_) rfl rfl ?_ ?_; rotate_left; (focus (intro Y hY; first | (refine (exec_til (B.out.2.2.2.2.1.since hY) lT rfl).trans ?_; with_reducible rfl) | (refine (exec_til (B.out.2.2.2.2.2.since hY) lT' rfl).trans ?_; with_reducible rfl) | (go_simp; try with_reducible rfl))); go_simp; try go_bits)
          refine sched_end ?_
          go_wp2
          go_ret
          refine ⟨congrArg (fun b => Ending.returned (Value.bool b)) (Eq.symm (decide_eq_false fun e => ?_)), hb.drew⟩
          subst e
          exact HC.out (Option.some.inj (B.out.2.2.1.symm.trans B.out.2.2.2.1))
      · have hk : k = m1 := by omega
        have B := Lib.hid he
        clear he
        go_wp2
        go_ret
        refine ⟨congrArg (fun b => Ending.returned (Value.bool b)) (Eq.symm (decide_eq_true ?_)), hb⟩
        apply List.ext_getElem?
        intro j
        rcases Nat.lt_or_ge j m1 with h | h
        · exact B.out j (by omega)
        · rw [List.getElem?_eq_none (by rw [A.out.1]; exact h), List.getElem?_eq_none (by rw [A.out.2.1]; exact h)]
  · have Hl := Lib.hid hl
    have hb : ((m1 : Int) != m2) = true := by simp; omega
    clear hl
    go_enter Try.func151, Try.ntmps151
    go_wp2
    go_ret
    refine ⟨congrArg (fun b => Ending.returned (Value.bool b)) (Eq.symm (decide_eq_false fun e => Hl.out (by rw [← A.out.1, ← A.out.2.1, e]))), Below.refl _ _⟩

/-- do two show the same? -/
def alikeB (x y x' y' : Int) (l l' : List (List Col)) : Bool := decide (x = x' ∧ y = y' ∧ l = l')
set_option maxRecDepth 100000 in
set_option maxHeartbeats 1000000 in
theorem alike_any (x y x' y' : Int) (a1 a2 : Option Addr) (x1 x2 : Nat) (l1 l2 : List (List Col)) (w : World) (h1 : TilRow w a1 l1) (h2 : TilRow w a2 l2) :
    Calls Try.prog 64 #[.agg #[.int .i64 x, .int .i64 y, .slice a1 l1.length x1], .agg #[.int .i64 x', .int .i64 y', .slice a2 l2.length x2]] w fun e w' => e = .returned (.bool (alikeB x y x' y' l1 l2)) ∧ Below w.heap.size w w' := by
  have H := Lib.hid (And.intro h1 h2)
  clear h1 h2
  by_cases hx : x = x'
  · by_cases hy : y = y'
    · subst hx; subst hy
      have e0 : alikeB x y x y l1 l2 = decide (l1 = l2) := by unfold alikeB; rw [decide_eq_decide]; simp
      rw [e0]
      clear e0
      go_enter Try.func64, Try.ntmps64
      go_wp2_with (fail)
      refine (eqt_any a1 a2 x1 x2 l1 l2 _ ((H.out.1.since ((Since.refl w).alloc _)).since ((Since.refl _).alloc _)) ((H.out.2.since ((Since.refl w).alloc _)).since ((Since.refl _).alloc _))).mono ?_
      rintro e w1 ⟨rfl, b1⟩
      have S1 := Lib.hid ((((Since.refl w).alloc _).alloc _).step b1)
      obtain ⟨bb, hbb⟩ : ∃ bb, decide (l1 = l2) = bb := ⟨_, rfl⟩
      rw [hbb]
      have HB := Lib.hid hbb
      clear hbb b1
      go_wp2
      go_ret
      exact ⟨by rw [HB.out]; rfl, S1.out⟩
    · subst hx
      have e0 : alikeB x y x y' l1 l2 = false := by unfold alikeB; simp [hy]
      rw [e0]
      have hy' : (y == y') = false := by simp [hy]
      clear e0 hy
      go_enter Try.func64, Try.ntmps64
      go_wp2
      go_ret
      exact ⟨rfl, ((Since.refl w).alloc _).alloc _⟩
  · have e0 : alikeB x y x' y' l1 l2 = false := by unfold alikeB; simp [hx]
    rw [e0]
    have hx' : (x == x') = false := by simp [hx]
    clear e0 hx
    go_enter Try.func64, Try.ntmps64
    go_wp2
    go_ret
    exact ⟨rfl, ((Since.refl w).alloc _).alloc _⟩
end Go.Proofs.Ytedckelfdkfkoaa
