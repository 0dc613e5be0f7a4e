/- Words and texts are read back as they were. -/
import Derived.Test.YtnladfpckejogaaN
import Derived.Test.YtnladfpckejogaaY
namespace Go.Proofs.Ytnladfpckejogaa
open Go.RowKit Go.Shelf
attribute [local go_sem] Oper.semAt_some
attribute [local go_sem 2000] run_col
attribute [local go_sem] colB_self

theorem pack_bd {r g b a : Int} (hr : By r) (hg : By g) (hb : By b) (ha : By a) : 0 ≤ packZ r g b a ∧ packZ r g b a < 4294967296 := by
  unfold By at hr hg hb ha; unfold packZ; omega
theorem unpack_pack {r g b a : Int} (hr : By r) (hg : By g) (hb : By b) (ha : By a) :
    packZ r g b a / 16777216 = r ∧ packZ r g b a / 65536 % 256 = g ∧ packZ r g b a / 256 % 256 = b ∧ packZ r g b a % 256 = a := by
  unfold By at *; unfold packZ; omega
theorem pack_unpack (x : Int) : packZ (x / 16777216) (x / 65536 % 256) (x / 256 % 256) (x % 256) = x := by
  unfold packZ; omega
theorem unpack_by {x : Int} (h0 : 0 ≤ x) (h1 : x < 4294967296) : By (x / 16777216) ∧ By (x / 65536 % 256) ∧ By (x / 256 % 256) ∧ By (x % 256) := by
  unfold By; omega
theorem pair_text {r : Int} (hr : By r) : pairV (dB (r / 16)) (dB (r % 16)) = some r := by
  obtain ⟨h0, h1⟩ := hr
  unfold pairV
  rw [dB_digV (by omega) (by omega), dB_digV (by omega) (by omega)]
  simp only [Option.some.injEq]
  omega
theorem read_text {r g b a : Int} (hr : By r) (hg : By g) (hb : By b) (ha : By a) : readV (textS r g b a) = some (packZ r g b a) := by
  unfold textS
  rw [readV8, pair_text hr, pair_text hg, pair_text hb, pair_text ha]
  rfl
theorem text_pair {b c : UInt8} {v : Int} (h : pairV b c = some v) : dB (v / 16) = b ∧ dB (v % 16) = c := by
  unfold pairV at h
  cases h1 : digV (b.toNat : Int) with
  | none => rw [h1] at h; cases h
  | some d =>
    cases h2 : digV (c.toNat : Int) with
    | none => rw [h1, h2] at h; cases h
    | some e =>
      rw [h1, h2] at h; simp only [Option.some.injEq] at h
      have := digV_bd h1; have := digV_bd h2
      rw [show v / 16 = d by omega, show v % 16 = e by omega]
      exact ⟨digV_dB h1, digV_dB h2⟩
theorem text_read {s : ByteArray} {x : Int} (h : readV s = some x) : textS (x / 16777216) (x / 65536 % 256) (x / 256 % 256) (x % 256) = s ∧ 0 ≤ x ∧ x < 4294967296 := by
  have h8 : s.size = 8 := by
    unfold readV at h
    split at h
    · assumption
    · cases h
  obtain ⟨b0, b1, b2, b3, b4, b5, b6, b7, rfl⟩ : ∃ b0 b1 b2 b3 b4 b5 b6 b7 : UInt8, s = ⟨#[b0, b1, b2, b3, b4, b5, b6, b7]⟩ := by
    obtain ⟨⟨l⟩⟩ := s
    match l, h8 with
    | [b0, b1, b2, b3, b4, b5, b6, b7], _ => exact ⟨b0, b1, b2, b3, b4, b5, b6, b7, rfl⟩
  rw [readV8] at h
  cases p0 : pairV b0 b1 with
  | none => rw [p0] at h; cases h
  | some v0 =>
  cases p1 : pairV b2 b3 with
  | none => rw [p0, p1] at h; cases h
  | some v1 =>
  cases p2 : pairV b4 b5 with
  | none => rw [p0, p1, p2] at h; cases h
  | some v2 =>
  cases p3 : pairV b6 b7 with
  | none => rw [p0, p1, p2, p3] at h; cases h
  | some v3 =>
  rw [p0, p1, p2, p3] at h
  simp only [Option.some.injEq] at h
  subst h
  have y0 := pairV_bd p0
  have y1 := pairV_bd p1
  have y2 := pairV_bd p2
  have y3 := pairV_bd p3
  have t0 := text_pair p0
  have t1 := text_pair p1
  have t2 := text_pair p2
  have t3 := text_pair p3
  have u := unpack_pack y0 y1 y2 y3
  have k := pack_bd y0 y1 y2 y3
  change textS (packZ v0 v1 v2 v3 / 16777216) (packZ v0 v1 v2 v3 / 65536 % 256) (packZ v0 v1 v2 v3 / 256 % 256) (packZ v0 v1 v2 v3 % 256) = _ ∧ 0 ≤ packZ v0 v1 v2 v3 ∧ packZ v0 v1 v2 v3 < 4294967296
  rw [u.1, u.2.1, u.2.2.1, u.2.2.2]
  refine ⟨?_, k⟩
  unfold textS
  rw [t0.1, t0.2, t1.1, t1.2, t2.1, t2.2, t3.1, t3.2]

set_option maxRecDepth 100000 in
set_option maxHeartbeats 2000000 in
theorem back_any (r g b a x : Int) (s : ByteArray) (w : World) (hr : By r) (hg : By g) (hb : By b) (ha : By a) (h0 : 0 ≤ x) (h1 : x < 4294967296) :
    Calls Try.prog 4 #[.agg #[.int .u8 r, .int .u8 g, .int .u8 b, .int .u8 a], .int .u32 x, .string s] w fun e w' => e = .returned (.bool true) ∧ Below w.heap.size w w' := by
  go_enter Try.func4, Try.ntmps4
  go_wp2_with (fail)
  generalize hX : World.alloc _ _ = X
  have x0 : Has X w.heap.size (.cells #[.int .u8 r, .int .u8 g, .int .u8 b, .int .u8 a] 27 (0, 0)) := by rw [← hX]; exact Has.new' (by simp)
  have bX : Below w.heap.size w X := by rw [← hX]; exact (Below.refl _ _).alloc (by simp) _
  clear hX
  refine (wakes_any _).mono ?_
  rintro e w1 ⟨rfl, b1⟩
  have y0 := x0.below b1 x0.lt
  have B1 := bX.trans (b1.mono bX.size)
  have d0 := y0.four
  clear x0 bX b1
  go_wp2_with (fail)
  refine (text_any r g b a _ hr hg hb ha).mono ?_
  rintro e w2 ⟨rfl, b2⟩
  go_wp2_with (fail)
  refine (read_any _ _).mono ?_
  rintro e w3 ⟨he, b3⟩
  obtain ⟨u0, u1, u2, u3⟩ := unpack_pack hr hg hb ha
  rw [read_text hr hg hb ha] at he
  unfold readR at he
  simp only [] at he
  rw [u0, u1, u2, u3] at he
  subst he
  have z0 := (y0.below b2 y0.lt).below b3 (y0.below b2 y0.lt).lt
  have B3 := (B1.trans (b2.mono B1.size)).trans (b3.mono (B1.trans (b2.mono B1.size)).size)
  clear d0 B1 b2 b3
  go_wp2_with (fail)
  have S3 := And.intro (z0.alloc (.cells #[.int .u8 r, .int .u8 g, .int .u8 b, .int .u8 a] 27 (0, 0))).drew (Has.new w3 (.cells #[.int .u8 r, .int .u8 g, .int .u8 b, .int .u8 a] 27 (0, 0))).drew
  replace B3 := (B3.alloc B3.size (.cells #[.int .u8 r, .int .u8 g, .int .u8 b, .int .u8 a] 27 (0, 0))).drew
  clear y0 z0
  refine wp_region_sched [(0, false), (1, false), (2, false), (3, false), (4, false), (5, false), (6, false), (7, false), (8, false), (11, false), (9, true), (10, true), (12, false), (13, false), (14, false), (15, false), (18, false), (16, true), (17, true), (19, false), (20, false)] (fun Y => Has Y w.heap.size (.cells #[.int .u8 r, .int .u8 g, .int .u8 b, .int .u8 a] 27 (0, 0)) ∧ Has Y w3.heap.size (.cells #[.int .u8 r, .int .u8 g, .int .u8 b, .int .u8 a] 27 (0, 0))) (by kernel_rfl) (by kernel_rfl) S3 ?_
  repeat (refine sched_pure (v := ?_) rfl rfl ?_ ?_; rotate_left; (focus (intro Y hY; have y0 := hY.1.four; have y1 := hY.2.four; go_simp; try with_reducible rfl)); go_simp; try go_bits)
  refine sched_act rfl rfl ?_
  go_simp
  refine (pack_any r g b a _ hr hg hb ha).mono ?_
  rintro e w4 ⟨rfl, b4⟩
  have S4 := And.intro (S3.1.below b4 S3.1.lt) (S3.2.below b4 S3.2.lt)
  have B4 := B3.trans (b4.mono B3.size)
  refine ⟨S4, ?_⟩
  clear b4 B3 S3
  go_simp
  repeat (refine sched_pure (v := ?_) rfl rfl ?_ ?_; rotate_left; (focus (intro Y hY; have y0 := hY.1.four; have y1 := hY.2.four; go_simp; try with_reducible rfl)); go_simp; try go_bits)
  refine sched_act rfl rfl ?_
  go_simp
  refine (unpack_any _ _ (pack_bd hr hg hb ha).1 (pack_bd hr hg hb ha).2).mono ?_
  rintro e w5 ⟨rfl, b5⟩
  have S5 := And.intro (S4.1.below b5 S4.1.lt) (S4.2.below b5 S4.2.lt)
  have B5 := B4.trans (b5.mono B4.size)
  refine ⟨S5, ?_⟩
  clear b5 B4 S4
  rw [u0, u1, u2, u3]
  go_simp
  repeat (refine sched_pure (v := ?_) rfl rfl ?_ ?_; rotate_left; (focus (intro Y hY; have y0 := hY.1.four; have y1 := hY.2.four; go_simp; try with_reducible rfl)); go_simp; try go_bits)
  refine sched_act rfl rfl ?_
  go_simp
  refine (unpack_any x _ h0 h1).mono ?_
  rintro e w6 ⟨rfl, b6⟩
  have S6 := And.intro (S5.1.below b6 S5.1.lt) (S5.2.below b6 S5.2.lt)
  have B6 := B5.trans (b6.mono B5.size)
  refine ⟨S6, ?_⟩
  clear b6 B5 S5
  go_simp
  repeat (refine sched_pure (v := ?_) rfl rfl ?_ ?_; rotate_left; (focus (intro Y hY; have y0 := hY.1.four; have y1 := hY.2.four; go_simp; try with_reducible rfl)); go_simp; try go_bits)
  have vb := unpack_by h0 h1
  refine sched_act rfl rfl ?_
  go_simp
  refine (pack_any _ _ _ _ _ vb.1 vb.2.1 vb.2.2.1 vb.2.2.2).mono ?_
  rintro e w7 ⟨rfl, b7⟩
  have S7 := And.intro (S6.1.below b7 S6.1.lt) (S6.2.below b7 S6.2.lt)
  have B7 := B6.trans (b7.mono B6.size)
  refine ⟨S7, ?_⟩
  clear b7 B6 S6
  rw [pack_unpack x]
  go_simp
  repeat (refine sched_pure (v := ?_) rfl rfl ?_ ?_; rotate_left; (focus (intro Y hY; have y0 := hY.1.four; have y1 := hY.2.four; go_simp; try with_reducible rfl)); go_simp; try go_bits)
  refine sched_end ?_
  clear S7 vb
  go_wp2_with (fail)
  refine (read_any _ _).mono ?_
  rintro e w8 ⟨he, b8⟩
  have B8 := B7.trans (b8.mono B7.size)
  clear b8 B7
  cases hv : readV s with
  | none =>
    rw [hv] at he
    unfold readR at he
    simp only [] at he
    subst he
    have B9 := B8.alloc B8.size (.cells #[.int .u8 0, .int .u8 0, .int .u8 0, .int .u8 0] 27 (0, 0))
    clear hv B8
    go_wp2
    go_ret
    exact ⟨rfl, B9⟩
  | some y =>
    obtain ⟨ht, y0, y1⟩ := text_read hv
    rw [hv] at he
    unfold readR at he
    simp only [] at he
    subst he
    have vb := unpack_by y0 y1
    have B9 := B8.alloc B8.size (.cells #[.int .u8 (y / 16777216), .int .u8 (y / 65536 % 256), .int .u8 (y / 256 % 256), .int .u8 (y % 256)] 27 (0, 0))
    have T := Lib.hid ht
    clear hv B8 ht
    go_wp2_with (fail)
    refine (text_any _ _ _ _ _ vb.1 vb.2.1 vb.2.2.1 vb.2.2.2).mono ?_
    rintro e w9 ⟨he, b9⟩
    rw [T.out] at he
    subst he
    have B10 := B9.trans (b9.mono B9.size)
    clear b9 B9
    go_wp2
    go_ret
    exact ⟨rfl, B10⟩
end Go.Proofs.Ytnladfpckejogaa
