/- Walks: texts of colours. -/
import Derived.Test.YtnladfpckejogaaE
import Derived.WalkSpells
import Derived.Laws.DeepStrings4
namespace Go.Proofs.Ytnladfpckejogaa
open Go.RowKit Go.Shelf
attribute [local go_sem] Oper.semAt_some

/-- the letter of a digit -/
def dB (q : Int) : UInt8 := UInt8.ofNat (if q < 10 then 48 + q else 87 + q).toNat
def allHex : ByteArray := ⟨#[48, 49, 50, 51, 52, 53, 54, 55, 56, 57, 97, 98, 99, 100, 101, 102]⟩
theorem sixteen {q : Int} (h0 : 0 ≤ q) (h1 : q < 16) : q = 0 ∨ q = 1 ∨ q = 2 ∨ q = 3 ∨ q = 4 ∨ q = 5 ∨ q = 6 ∨ q = 7 ∨ q = 8 ∨ q = 9 ∨ q = 10 ∨ q = 11 ∨ q = 12 ∨ q = 13 ∨ q = 14 ∨ q = 15 := by omega
theorem hex_cut {q : Int} (h0 : 0 ≤ q) (h1 : q < 16) : allHex.extract q.toNat (q + 1).toNat = ⟨#[dB q]⟩ := by
  rcases sixteen h0 h1 with rfl | rfl | rfl | rfl | rfl | rfl | rfl | rfl | rfl | rfl | rfl | rfl | rfl | rfl | rfl | rfl <;> rfl
theorem run_hex {q : Int} (w : World) (h0 : 0 ≤ q) (h1 : q < 16) :
    (Instr.slice 9 (.string ⟨#[48, 49, 50, 51, 52, 53, 54, 55, 56, 57, 97, 98, 99, 100, 101, 102]⟩) (some (.int .i64 q)) (some (.int .i64 (q + 1))) none).run Try.prog w = .ok (.string ⟨#[dB q]⟩) w := by
  have e := hex_cut h0 h1
  unfold allHex at e
  rw [run_slice_string w 9 _ .i64 .i64 q (q + 1) rfl h0 (by omega) (by simp [ByteArray.size]; omega), e]

set_option maxRecDepth 100000 in
set_option maxHeartbeats 1000000 in
theorem hex_any (n : Int) (w : World) (h0 : 0 ≤ n) (h1 : n < 256) :
    Calls Try.prog 31 #[.int .i64 n] w fun e w' => e = .returned (.string ⟨#[dB (n / 16), dB (n % 16)]⟩) ∧ Below w.heap.size w w' := by
  have s1 : ∀ w, (Instr.slice 9 (.string ⟨#[48, 49, 50, 51, 52, 53, 54, 55, 56, 57, 97, 98, 99, 100, 101, 102]⟩) (some (.int .i64 (n / 16))) (some (.int .i64 (n / 16 + 1))) none).run Try.prog w = .ok (.string ⟨#[dB (n / 16)]⟩) w := fun w => run_hex w (by omega) (by omega)
  have s2 : ∀ w, (Instr.slice 9 (.string ⟨#[48, 49, 50, 51, 52, 53, 54, 55, 56, 57, 97, 98, 99, 100, 101, 102]⟩) (some (.int .i64 (n % 16))) (some (.int .i64 (n % 16 + 1))) none).run Try.prog w = .ok (.string ⟨#[dB (n % 16)]⟩) w := fun w => run_hex w (by omega) (by omega)
  have s3 : ∀ w, (Op.stringOp .add ⟨#[dB (n / 16)]⟩ ⟨#[dB (n % 16)]⟩).run Try.prog w = .ok (.string ⟨#[dB (n / 16), dB (n % 16)]⟩) w := fun w => run_string_add_sum w _ _ (by simp [ByteArray.size])
  go_enter Try.func31, Try.ntmps31
  go_wp2_with (fail)
  refine wp_region_sched [(0, false), (1, false), (2, false), (3, false), (4, false), (5, false), (6, false), (7, false), (8, false), (9, false), (10, false), (11, false), (12, false), (13, false), (14, false), (15, false)] (fun _ => True) (by kernel_rfl) (by kernel_rfl) trivial ?_
  repeat (refine sched_pure (v := ?_) rfl rfl ?_ ?_; rotate_left; (focus (intro Y hY; go_simp; try with_reducible rfl)); go_simp; try go_bits)
  refine sched_end ?_
  go_wp2
  go_ret
  exact ⟨rfl, (Below.refl _ _).drew⟩

/-- a colour's text -/
def textS (r g b a : Int) : ByteArray := ⟨#[dB (r / 16), dB (r % 16), dB (g / 16), dB (g % 16), dB (b / 16), dB (b % 16), dB (a / 16), dB (a % 16)]⟩

set_option maxRecDepth 100000 in
set_option maxHeartbeats 1000000 in
theorem rtext_any (r g b a : Int) (w : World) (hr : By r) (hg : By g) (hb : By b) (ha : By a) :
    Calls Try.prog 13 #[.agg #[.int .u8 r, .int .u8 g, .int .u8 b, .int .u8 a]] w fun e w' => e = .returned (.string (textS r g b a)) ∧ Below w.heap.size w w' := by
  have i0 : ∀ w, (Instr.index 61 (.agg #[.int .i64 r, .int .i64 g, .int .i64 b, .int .i64 a]) (.int .i64 0)).run Try.prog w = .ok (.int .i64 r) w := fun _ => by kernel_rfl
  have i1 : ∀ w, (Instr.index 61 (.agg #[.int .i64 r, .int .i64 g, .int .i64 b, .int .i64 a]) (.int .i64 1)).run Try.prog w = .ok (.int .i64 g) w := fun _ => by kernel_rfl
  have i2 : ∀ w, (Instr.index 61 (.agg #[.int .i64 r, .int .i64 g, .int .i64 b, .int .i64 a]) (.int .i64 2)).run Try.prog w = .ok (.int .i64 b) w := fun _ => by kernel_rfl
  have i3 : ∀ w, (Instr.index 61 (.agg #[.int .i64 r, .int .i64 g, .int .i64 b, .int .i64 a]) (.int .i64 3)).run Try.prog w = .ok (.int .i64 a) w := fun _ => by kernel_rfl
  have j0 : ∀ w, (Op.stringOp .add ⟨#[]⟩ ⟨#[dB (r / 16), dB (r % 16)]⟩).run Try.prog w = .ok (.string ⟨#[dB (r / 16), dB (r % 16)]⟩) w := fun w => run_string_add_sum w _ _ (by simp [ByteArray.size])
  have j1 : ∀ w, (Op.stringOp .add ⟨#[dB (r / 16), dB (r % 16)]⟩ ⟨#[dB (g / 16), dB (g % 16)]⟩).run Try.prog w = .ok (.string ⟨#[dB (r / 16), dB (r % 16), dB (g / 16), dB (g % 16)]⟩) w := fun w => run_string_add_sum w _ _ (by simp [ByteArray.size])
  have j2 : ∀ w, (Op.stringOp .add ⟨#[dB (r / 16), dB (r % 16), dB (g / 16), dB (g % 16)]⟩ ⟨#[dB (b / 16), dB (b % 16)]⟩).run Try.prog w = .ok (.string ⟨#[dB (r / 16), dB (r % 16), dB (g / 16), dB (g % 16), dB (b / 16), dB (b % 16)]⟩) w := fun w => run_string_add_sum w _ _ (by simp [ByteArray.size])
  have j3 : ∀ w, (Op.stringOp .add ⟨#[dB (r / 16), dB (r % 16), dB (g / 16), dB (g % 16), dB (b / 16), dB (b % 16)]⟩ ⟨#[dB (a / 16), dB (a % 16)]⟩).run Try.prog w = .ok (.string ⟨#[dB (r / 16), dB (r % 16), dB (g / 16), dB (g % 16), dB (b / 16), dB (b % 16), dB (a / 16), dB (a % 16)]⟩) w := fun w => run_string_add_sum w _ _ (by simp [ByteArray.size])
  go_enter Try.func13, Try.ntmps13
  go_wp2_with (fail)
  generalize hW0 : World.alloc _ _ = W0
  have b0 : Below w.heap.size w W0 := by rw [← hW0]; exact (Below.refl _ _).alloc (by simp) _
  clear hW0
  refine (rparts_any _ _ _ _ _ hr hg hb ha).mono ?_
  rintro e w1 ⟨rfl, hb1⟩
  have b1 := b0.trans (hb1.mono b0.size)
  clear hb1 b0
  obtain ⟨hr0, hr1⟩ := hr; obtain ⟨hg0, hg1⟩ := hg; obtain ⟨hb0, hb1⟩ := hb; obtain ⟨ha0, ha1⟩ := ha
  go_wp2
  refine wp_loop_rounds 5 ?_
  rw [rounds_succ]
  go_wp2_with (fail)
  refine (hex_any r _ hr0 (by omega)).mono ?_
  rintro e w2 ⟨rfl, hb⟩
  have b2 := b1.trans (hb.mono b1.size)
  clear hb b1
  go_wp2
  rw [rounds_succ]
  go_wp2_with (fail)
  refine (hex_any g _ hg0 (by omega)).mono ?_
  rintro e w3 ⟨rfl, hb⟩
  have b3 := b2.trans (hb.mono b2.size)
  clear hb b2
  go_wp2
  rw [rounds_succ]
  go_wp2_with (fail)
  refine (hex_any b _ hb0 (by omega)).mono ?_
  rintro e w4 ⟨rfl, hb⟩
  have b4 := b3.trans (hb.mono b3.size)
  clear hb b3
  go_wp2
  rw [rounds_succ]
  go_wp2_with (fail)
  refine (hex_any a _ ha0 (by omega)).mono ?_
  rintro e w5 ⟨rfl, hb⟩
  have b5 := b4.trans (hb.mono b4.size)
  clear hb b4
  go_wp2
  rw [rounds_succ]
  go_wp2
  go_ret
  exact ⟨rfl, b5⟩
end Go.Proofs.Ytnladfpckejogaa
