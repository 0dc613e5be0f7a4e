/- Walks: is a colour in a row? -/
import Derived.Test.YtedckelfdkfkoaaEq
import Derived.Test.YtedckelfdkfkoaaSi
namespace Go.Proofs.Ytedckelfdkfkoaa
open Go.RowKit Go.Shelf
attribute [local go_sem] Oper.semAt_some
attribute [local go_sem 2000] run_col
attribute [local go_sem] colB_self

/-- where a colour is in a row -/
def indexL (c : Col) : List Col → Nat → Int
  | [], _ => -1
  | d :: l, k => if c = d then (k : Int) else indexL c l (k + 1)
theorem indexL_mem {c : Col} : ∀ {l : List Col} {k : Nat}, (0 ≤ indexL c l k) ↔ c ∈ l
  | [], _ => by simp [indexL]
  | d :: l, k => by
    unfold indexL
    by_cases h : c = d
    · simp [h]
    · rw [if_neg h, indexL_mem]; simp [h]
theorem indexL_le {c : Col} : ∀ (l : List Col) (k : Nat), -1 ≤ indexL c l k ∧ indexL c l k < (k + l.length : Nat) + 1
  | [], k => by simp [indexL]; omega
  | d :: l, k => by
    unfold indexL
    have := indexL_le (c := c) l (k + 1)
    simp only [List.length_cons]
    split <;> omega

set_option maxRecDepth 100000 in
set_option maxHeartbeats 1000000 in
theorem index_any (ad : Option Addr) (cap : Nat) (l : List Col) (c : Col) (w : World) (hl : ColRow w ad l) :
    Calls Try.prog 138 #[.slice ad l.length cap, colV c] w fun e w' => e = .returned (.int .i64 (indexL c l 0)) ∧ Below w.heap.size w w' := by
  have n1 := hl.len
  unfold maxLen at n1
  generalize hm1 : l.length = m1 at *
  obtain ⟨R, hR⟩ : ∃ R, indexL c l 0 = R := ⟨_, rfl⟩
  rw [hR]
  obtain ⟨c0, c1, c2, c3⟩ := c
  have A0 := Lib.hid (And.intro hm1 (And.intro hl hR))
  clear hm1 hl hR
  go_enter Try.func138, Try.ntmps138
  go_wp2
  generalize hX : World.alloc _ _ = X
  have x0 : Has X w.heap.size (.cells (colC (c0, c1, c2, c3)) 23 (0, 0)) := by rw [← hX]; exact Has.new _ _
  have b0 : Since w X := by rw [← hX]; exact (Since.refl _).alloc _
  clear hX
  have HX := Lib.hid (And.intro x0 b0)
  clear x0 b0
  go_loopg [8] m1 (fun n i wr => ∃ k : Nat, k ≤ m1 ∧ n = m1 - k ∧ i = .int .i64 k ∧ indexL (c0, c1, c2, c3) (l.drop k) k = R ∧ Since X wr)
  case atStart => exact ⟨0, by omega, by omega, rfl, A0.out.2.2, Since.refl _⟩
  case round =>
    obtain ⟨k, hk, hn, rfl, hR, hj⟩ := hrel
    by_cases hlt : k < m1
    · obtain ⟨hm1, hl, _⟩ := A0.out
      obtain ⟨d, hd⟩ : ∃ d, l[k]? = some d := ⟨_, List.getElem?_eq_getElem (by omega)⟩
      obtain ⟨a, rfl, q⟩ := ((hl.since HX.out.2).since hj).at_ k d hd
      rw [List.drop_eq_getElem_cons (by omega), show l[k]'(by omega) = d by rw [List.getElem?_eq_getElem (by omega)] at hd; exact Option.some.inj hd] at hR
      unfold indexL at hR
      have p0 := HX.out.1.since hj
      have J := Lib.hid (And.intro hn (And.intro hj (And.intro hR (And.intro p0 q))))
      clear hn hj hR hm1 hl hd p0 q
      have lt4 : k * 4 + 3 < (m1 : Nat) * 4 := by omega
      obtain ⟨d0, d1, d2, d3⟩ := d
      cases hcol : colB c0 c1 c2 c3 d0 d1 d2 d3 with
      | true =>
        go_wp2
        refine wp_region_sched [(0, false), (1, false), (2, false), (3, false), (4, false), (5, false)] (Since wr) (by kernel_rfl) (by kernel_rfl) (Since.refl wr).drew ?_
        repeat (refine sched_pure (v := ?_) rfl rfl ?_ ?_; rotate_left; (focus (intro Y hY; have y0 := (J.out.2.2.2.1.since hY).four; have y1 := J.out.2.2.2.2.since hY; unfold ColAt at y1; go_simp; try with_reducible rfl)); go_simp; try go_bits)
        refine sched_end ?_
        go_wp2
        go_ret
        obtain ⟨rfl, rfl, rfl, rfl⟩ := colB_true hcol
        have hR := J.out.2.2.1
        rw [if_pos rfl] at hR
        exact ⟨by rw [← hR]; rfl, (HX.out.2.trans J.out.2.1).drew⟩
      | false =>
        go_wp2
        refine wp_region_sched [(0, false), (1, false), (2, false), (3, false), (4, false), (5, false)] (Since wr) (by kernel_rfl) (by kernel_rfl) (Since.refl wr).drew ?_
        repeat (refine sched_pure (v := ?_) rfl rfl ?_ ?_; rotate_left; (focus (intro Y hY; have y0 := (J.out.2.2.2.1.since hY).four; have y1 := J.out.2.2.2.2.since hY; unfold ColAt at y1; go_simp; try with_reducible rfl)); go_simp; try go_bits)
        refine sched_end ?_
        go_wp2
        go_roundg (m1 - (k + 1))
        case measure => have := J.out.1; omega
        case rel =>
          have hR := J.out.2.2.1
          rw [if_neg (by rintro ⟨⟩; rw [colB_self] at hcol; cases hcol)] at hR
          exact ⟨k + 1, hlt, rfl, by go_num, hR, J.out.2.1.drew⟩
    · obtain rfl : k = m1 := by omega
      rw [List.drop_eq_nil_of_le (by rw [A0.out.1]; exact Nat.le_refl _)] at hR
      have J := Lib.hid hR
      clear hR hn
      go_wp2
      go_ret
      exact ⟨by rw [← J.out]; rfl, HX.out.2.trans hj⟩

set_option maxRecDepth 100000 in
set_option maxHeartbeats 1000000 in
theorem contains_any (ad : Option Addr) (cap : Nat) (l : List Col) (c : Col) (w : World) (hl : ColRow w ad l) :
    Calls Try.prog 49 #[.slice ad l.length cap, colV c] w fun e w' => e = .returned (.bool (decide (c ∈ l))) ∧ Below w.heap.size w w' := by
  obtain ⟨c0, c1, c2, c3⟩ := c
  have HL := Lib.hid hl
  clear hl
  go_enter Try.func49, Try.ntmps49
  go_wp2_with (fail)
  refine (index_any ad cap l (c0, c1, c2, c3) _ (HL.out.since ((Since.refl w).alloc _))).mono ?_
  rintro e w1 ⟨rfl, hb⟩
  have hm := indexL_mem (c := (c0, c1, c2, c3)) (l := l) (k := 0)
  obtain ⟨R, hR⟩ : ∃ R, indexL (c0, c1, c2, c3) l 0 = R := ⟨_, rfl⟩
  rw [hR] at hm ⊢
  have HM := Lib.hid hm
  have J := Lib.hid (((Since.refl w).alloc _).step hb)
  clear hR hm hb
  go_wp2
  go_ret
  exact ⟨congrArg (fun b => Ending.returned (.bool b)) (decide_eq_decide.2 HM.out), J.out⟩
end Go.Proofs.Ytedckelfdkfkoaa
