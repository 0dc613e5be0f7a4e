/- Walks: does the layer of canvases do anything? -/
import Derived.Test.YtedckelfdkfkoaaCj
import Derived.Test.YtedckelfdkfkoaaCw
import Derived.Test.YtedckelfdkfkoaaCf
import Derived.Test.YtedckelfdkfkoaaCs
import Derived.Test.YtedckelfdkfkoaaCe
import Derived.Test.YtedckelfdkfkoaaWk
namespace Go.Proofs.Ytedckelfdkfkoaa
open Go.RowKit Go.Shelf
attribute [local go_sem] Oper.semAt_some
attribute [local go_sem 2000] run_col run_tile
attribute [local go_sem] colB_self
attribute [local go_sem ↓] Go.wp_at_zero Go.wp_at_succ
attribute [local go_sem ↓] zero25 build25 build176z build176 load25 store25
attribute [local go_sem] World.setRow_alloc_new
attribute [local go_sem] rowAt_alloc rowFree_alloc rowAt_drew rowFree_drew zeroA_size zc176 zeroA_ones blkOf_ptr aggOf_agg

def dots5 : List Dot := [(9, 1, redC), (99, 0, redC)]
def T5 : List Col := blankT.set 9 redC
theorem dots5_T (r : Nat) : dotsT (cnew 2 1 r).w (cnew 2 1 r).h (cnew 2 1 r).Ts dots5 = [blankT, T5] := by kernel_rfl
/-- the canvas with the two dots -/
structure D5 (d : Cv) : Prop where
  w : d.w = 2
  h : d.h = 1
  Ts : d.Ts = [blankT, T5]
theorem D5.cat {d : Cv} (h : D5 d) : catV d 9 1 = (redC, true) := by
  obtain ⟨w, hh, ps, Ts⟩ := d
  obtain ⟨rfl, rfl, rfl⟩ := h
  kernel_rfl
theorem D5.dif {d : Cv} (h : D5 d) (r : Nat) : difL (cnew 2 1 r) d = [(9, 1)] := by
  obtain ⟨w, hh, ps, Ts⟩ := d
  obtain ⟨rfl, rfl, rfl⟩ := h
  kernel_rfl
theorem T5_ne : T5 ≠ blankT := by decide +kernel
theorem D5.same {d : Cv} (h : D5 d) (r : Nat) : csame (cnew 2 1 r) d = false := by
  unfold csame
  refine decide_eq_false fun e => ?_
  have e2 := e.2.2
  rw [h.Ts] at e2
  have : (blankT : List Col) = T5 := by
    have h0 : (cnew 2 1 r).Ts = [blankT, blankT] := by kernel_rfl
    rw [h0] at e2
    exact (List.cons.inj (List.cons.inj e2).2).1
  exact T5_ne this.symm
theorem D5.shared {d : Cv} (h : D5 d) (r n : Nat) (hr : r < n) (hp : d.ps.length = 2)
    (hs : ∀ i p p' : Nat, (cnew 2 1 r).ps[i]? = some p → d.ps[i]? = some p' → (p' = p ∧ d.Ts[i]? = (cnew 2 1 r).Ts[i]?) ∨ (d.Ts[i]? ≠ (cnew 2 1 r).Ts[i]? ∧ n ≤ p')) : sharedN (cnew 2 1 r) d = 1 := by
  obtain ⟨w, hh, ps, Ts⟩ := d
  obtain ⟨rfl, rfl, rfl⟩ := h
  match ps, hp with
  | [p0, p1], _ =>
    have h0 := hs 0 r p0 rfl rfl
    have h1 := hs 1 r p1 rfl rfl
    have e0 : p0 = r := by
      rcases h0 with h | h
      · exact h.1
      · exact absurd rfl h.1
    have e1 : r ≠ p1 := by
      rcases h1 with h | h
      · exact absurd (Option.some.inj h.2) T5_ne
      · omega
    subst e0
    show sharedN (cnew 2 1 p0) _ = 1
    unfold sharedN
    rw [if_pos ⟨rfl, rfl⟩]
    show (if p0 = p0 then 1 else 0) + ((if p0 = p1 then 1 else 0) + 0) = 1
    rw [if_pos rfl, if_neg e1]
theorem dots_two {W : World} {r : Nat} (h : Has W r (.cells #[.int .i64 9, .int .i64 1, .int .u8 255, .int .u8 0, .int .u8 0, .int .u8 255, .int .i64 99, .int .i64 0, .int .u8 255, .int .u8 0, .int .u8 0, .int .u8 255] 81 (0, 0))) : DotRow W (some ⟨r, 0, none⟩) dots5 := by
  refine ⟨by simp [maxLen, dots5], fun i c hi => ?_, fun c hc => ?_⟩
  · match i, hi with
    | 0, hi => cases hi; exact ⟨_, rfl, h.cell 0, h.cell 1, h.cell 2, h.cell 3, h.cell 4, h.cell 5⟩
    | 1, hi => cases hi; exact ⟨_, rfl, h.cell 6, h.cell 7, h.cell 8, h.cell 9, h.cell 10, h.cell 11⟩
    | i + 2, hi => simp [dots5] at hi
  · simp only [dots5, List.mem_cons, List.not_mem_nil, or_false] at hc
    rcases hc with rfl | rfl <;> (unfold WdD WdP ByC By redC; decide)
abbrev redO : Obj := .cells #[.int .u8 255, .int .u8 0, .int .u8 0, .int .u8 255] 23
structure S5 (p q r m n : Nat) (d : Cv) (W : World) : Prop where
  c : CvAt W p (cnew 2 1 r)
  d : CvAt W q d
  red : Has W m redO
  x : Has W n redO
theorem S5.since {p q r m n : Nat} {d : Cv} {W W' : World} (h : S5 p q r m n d W) (s : Since W W') : S5 p q r m n d W' := ⟨h.c.since s, h.d.since s, h.red.since s, h.x.since s⟩
set_option maxRecDepth 100000 in
set_option maxHeartbeats 2000000 in
theorem wakes5_any (w : World) : Calls Try.prog 50 #[] w fun e w' => e = .returned (.bool true) ∧ Since w w' := by
  go_enter Try.func50, Try.ntmps50
  go_wp2_with (fail)
  refine (cnew_yes 2 1 w (by kernel_rfl)).mono ?_
  rintro e w1 ⟨p, r, rfl, hc, lp, lr, s0⟩
  have s1 : Since w w1 := s0
  have lrr : r < w1.heap.size := by
    obtain ⟨g, cap, k⟩ := hc
    exact k.low.2.2 r (by simp [cnew])
  have H1 := Lib.hid (And.intro hc (And.intro lp (And.intro lr (And.intro lrr s1))))
  clear hc lp lr s0 s1 lrr
  go_wp2_with (fail)
  have s2 : Since w1 ((w1.alloc (.cells #[.int .u8 255, .int .u8 0, .int .u8 0, .int .u8 255] 23)).alloc (.cells #[.int .i64 9, .int .i64 1, .int .u8 255, .int .u8 0, .int .u8 0, .int .u8 255, .int .i64 99, .int .i64 0, .int .u8 255, .int .u8 0, .int .u8 0, .int .u8 255] 81)) := ((Since.refl w1).alloc _).alloc _
  have hred : Has ((w1.alloc (.cells #[.int .u8 255, .int .u8 0, .int .u8 0, .int .u8 255] 23)).alloc (.cells #[.int .i64 9, .int .i64 1, .int .u8 255, .int .u8 0, .int .u8 0, .int .u8 255, .int .i64 99, .int .i64 0, .int .u8 255, .int .u8 0, .int .u8 0, .int .u8 255] 81)) w1.heap.size (.cells #[.int .u8 255, .int .u8 0, .int .u8 0, .int .u8 255] 23) := (Has.new _ _).alloc _
  have hdot := dots_two (Has.new' (W := w1.alloc (.cells #[.int .u8 255, .int .u8 0, .int .u8 0, .int .u8 255] 23)) (r := w1.heap.size + 1) (o := .cells #[.int .i64 9, .int .i64 1, .int .u8 255, .int .u8 0, .int .u8 0, .int .u8 255, .int .i64 99, .int .i64 0, .int .u8 255, .int .u8 0, .int .u8 0, .int .u8 255] 81) (by simp))
  generalize World.alloc (World.alloc _ _) _ = W1 at *
  have l1 := hred.lt
  refine (cwith_any p (cnew 2 1 r) (some ⟨w1.heap.size + 1, 0, none⟩) 2 dots5 W1 (H1.out.1.since s2) hdot).mono ?_
  rintro e w2 ⟨q, d, rfl, hd, dw, dh, dT, dsh, lq, s3⟩
  rw [dots5_T] at dT
  have D : D5 d := ⟨dw, dh, dT⟩
  have S2 : Since W1 w2 := s3
  have H2 := Lib.hid (And.intro (H1.out.1.since (s2.trans S2)) (And.intro hd (And.intro D (And.intro dsh (And.intro (hred.since S2) (And.intro (s2.trans S2) (s2.size)))))))
  have lred := (hred.since S2).lt
  have l0 := H1.out.2.2.2.1
  clear hd dw dh dT dsh lq s3 S2 s2 hred hdot l1 D l0
  go_wp2_with (fail)
  refine (cat_any q d 9 1 w2 H2.out.2.1).mono ?_
  rintro e w3 ⟨rfl, b3⟩
  have s3 : Since w2 w3 := b3
  rw [H2.out.2.2.1.cat]
  have H3 := Lib.hid s3
  clear b3 s3
  simp only [catR, redC]
  go_wp2_with (fail)
  have s4 : Since w3 (w3.alloc (.cells #[.int .u8 255, .int .u8 0, .int .u8 0, .int .u8 255] 23)) := (Since.refl w3).alloc _
  have h4 : Has (w3.alloc (.cells #[.int .u8 255, .int .u8 0, .int .u8 0, .int .u8 255] 23)) w3.heap.size (.cells #[.int .u8 255, .int .u8 0, .int .u8 0, .int .u8 255] 23) := Has.new _ _
  have S : S5 p q r w1.heap.size w3.heap.size d (w3.alloc redO) := ⟨(H2.out.1.since H3.out).since s4, (H2.out.2.1.since H3.out).since s4, (H2.out.2.2.2.2.1.since H3.out).since s4, h4⟩
  have Sw : Since w (w3.alloc redO) := (H1.out.2.2.2.2.trans ((H2.out.2.2.2.2.2.1).trans H3.out)).trans s4
  generalize World.alloc _ _ = W3 at *
  clear s4 h4
  refine (cat_any p (cnew 2 1 r) 16 0 W3 S.c).mono ?_
  rintro e w4 ⟨rfl, b4⟩
  rw [show catV (cnew 2 1 r) 16 0 = (z0, false) by kernel_rfl]
  simp only [catR, z0]
  have H4 := Lib.hid (And.intro (S.since b4) (Sw.trans b4))
  clear b4 S Sw lred
  go_wp2_with (fail)
  have S := H4.out.1.since ((Since.refl w4).alloc (.cells #[.int .u8 0, .int .u8 0, .int .u8 0, .int .u8 0] 23))
  have Sw := H4.out.2.trans ((Since.refl w4).alloc (.cells #[.int .u8 0, .int .u8 0, .int .u8 0, .int .u8 0] 23))
  generalize World.alloc _ _ = W4 at *
  refine (csize_any p (cnew 2 1 r) W4 S.c).mono ?_
  rintro e w5 ⟨rfl, b5⟩
  rw [show (8 * (cnew 2 1 r).w) = 16 by kernel_rfl, show (8 * (cnew 2 1 r).h) = 8 by kernel_rfl]
  have H5 := Lib.hid (And.intro (S.since b5) (Sw.trans b5))
  clear b5 S Sw
  go_wp2_with (fail)
  refine (cof_no 1 1 none 0 0 w5 (by unfold maxLen; omega) (by kernel_rfl)).mono ?_
  rintro e w6 ⟨rfl, b6⟩
  have y0 := (H5.out.1.since b6).red.four
  have y1 := (H5.out.1.since b6).x.four
  have H6 := Lib.hid (And.intro (H5.out.1.since b6) (H5.out.2.trans b6))
  clear b6
  go_wp2_with (fail)
  have hsh : sharedN (cnew 2 1 r) d = 1 := by
    refine H2.out.2.2.1.shared r _ ?_ ?_ H2.out.2.2.2.1
    · have := H1.out.2.2.2.1; have := H2.out.2.2.2.2.2.2; omega
    · have := H2.out.2.1.ok.np; rw [H2.out.2.2.1.w, H2.out.2.2.1.h] at this; exact this
  refine (shared_any p q (cnew 2 1 r) d w6 H6.out.1.c H6.out.1.d).mono ?_
  rintro e w7 ⟨rfl, b7⟩
  rw [hsh]
  have H7 := Lib.hid (And.intro (H6.out.1.since b7) (H6.out.2.trans b7))
  clear b7 hsh y0 y1
  go_wp2_with (fail)
  refine (differ_any p q (cnew 2 1 r) d w7 H7.out.1.c H7.out.1.d H2.out.2.2.1.w.symm H2.out.2.2.1.h.symm).mono ?_
  rintro e w8 ⟨ad, cap, rfl, hrow, _, s8⟩
  rw [H2.out.2.2.1.dif] at hrow ⊢
  have H8 := Lib.hid (And.intro (H7.out.1.since s8) (And.intro (H7.out.2.trans s8) hrow))
  clear hrow s8
  go_wp2_with (fail)
  have h9 := ptRow_1 (Has.new w8 (.cells #[.int .i64 9, .int .i64 1] 43)) (by unfold WdP; decide)
  have S := H8.out.1.since ((Since.refl w8).alloc (.cells #[.int .i64 9, .int .i64 1] 43))
  have Sw := H8.out.2.1.trans ((Since.refl w8).alloc (.cells #[.int .i64 9, .int .i64 1] 43))
  have hr := H8.out.2.2.since ((Since.refl w8).alloc (.cells #[.int .i64 9, .int .i64 1] 43))
  refine (equalp_any ad (some ⟨w8.heap.size, 0, none⟩) cap 1 [(9, 1)] [(9, 1)] _ hr h9).mono ?_
  rintro e w9 ⟨rfl, b9⟩
  rw [decide_eq_true rfl]
  have H9 := Lib.hid (And.intro (S.since b9) (Sw.trans b9))
  clear b9 S Sw hr h9
  go_wp2_with (fail)
  refine (csame_any p q (cnew 2 1 r) d w9 H9.out.1.c H9.out.1.d).mono ?_
  rintro e w10 ⟨rfl, b10⟩
  rw [H2.out.2.2.1.same]
  have H10 := Lib.hid (H9.out.2.trans b10)
  clear b10
  go_wp2
  go_ret
  exact ⟨rfl, H10.out⟩
end Go.Proofs.Ytedckelfdkfkoaa
