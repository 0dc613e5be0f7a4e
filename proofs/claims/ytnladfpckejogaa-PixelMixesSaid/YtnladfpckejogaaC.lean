/- Walks of the small functions over colours. -/
import Derived.Test.YtnladfpckejogaaF
import Derived.Test.YtnladfpckejogaaProg
import Derived.Lib.Hide
namespace Go.Proofs.Ytnladfpckejogaa
open Go.RowKit Go.Shelf

/-- are two colours the same? -/
def colB (r g b a r' g' b' a' : Int) : Bool := decide (r = r' ∧ g = g' ∧ b = b' ∧ a = a')
theorem colB_self (r g b a : Int) : colB r g b a r g b a = true := by simp [colB]
theorem colB_true {r g b a r' g' b' a' : Int} (h : colB r g b a r' g' b' a' = true) : r = r' ∧ g = g' ∧ b = b' ∧ a = a' := by simpa [colB] using h
theorem run_col (r g b a r' g' b' a' : Int) (w : World) : (Op.equalIn 10000 27 (.agg #[.int .u8 r, .int .u8 g, .int .u8 b, .int .u8 a]) (.agg #[.int .u8 r', .int .u8 g', .int .u8 b', .int .u8 a'])).run Try.prog w = .ok (colB r g b a r' g' b' a') w := by
  by_cases h1 : r = r'
  · by_cases h2 : g = g'
    · by_cases h3 : b = b'
      · by_cases h4 : a = a' <;> simp [go_sem, colB, h1, h2, h3, h4]
      · simp [go_sem, colB, h1, h2, h3]
    · simp [go_sem, colB, h1, h2]
  · simp [go_sem, colB, h1]
attribute [local go_sem 2000] run_col
attribute [local go_sem] colB_self

/-- how much of two comes to one, by how much of the second there is -/
def shareZ (a b p : Int) : Int := (a * (255 - p) + b * p + 127) / 255
theorem shareZ_lo {a b p : Int} (h1 : 0 ≤ a) (h3 : 0 ≤ b) (h5 : 0 ≤ p) (h6 : p ≤ 255) : 0 ≤ shareZ a b p := by
  unfold shareZ
  have := Int.mul_nonneg h1 (show 0 ≤ 255 - p by omega)
  have := Int.mul_nonneg h3 h5
  omega
theorem shareZ_hi {a b p : Int} (h2 : a ≤ 255) (h4 : b ≤ 255) (h5 : 0 ≤ p) (h6 : p ≤ 255) : shareZ a b p ≤ 255 := by
  unfold shareZ
  have := Int.mul_le_mul_of_nonneg_right h2 (show 0 ≤ 255 - p by omega)
  have := Int.mul_le_mul_of_nonneg_right h4 h5
  omega

set_option maxHeartbeats 400000 in
theorem share_any (a b p : Int) (w : World) (h1 : 0 ≤ a) (h2 : a ≤ 255) (h3 : 0 ≤ b) (h4 : b ≤ 255) (h5 : 0 ≤ p) (h6 : p ≤ 255) :
    Calls Try.prog 40 #[.int .i64 a, .int .i64 b, .int .i64 p] w fun e w' => e = .returned (.int .i64 (shareZ a b p)) ∧ w = w' := by
  have m1 := Int.mul_nonneg h1 (show 0 ≤ 255 - p by omega)
  have m2 := Int.mul_nonneg h3 h5
  have m3 := Int.mul_le_mul_of_nonneg_right h2 (show 0 ≤ 255 - p by omega)
  have m4 := Int.mul_le_mul_of_nonneg_right h4 h5
  have m5 : a * (255 - p) ≤ 65025 := by omega
  have m6 : b * p ≤ 65025 := by omega
  clear m3 m4
  go_enter Try.func40, Try.ntmps40
  go_wp2
  go_ret
  exact ⟨rfl, rfl⟩

set_option maxHeartbeats 400000 in
theorem over1_any (x y p : Int) (B : Nat) (w : World) (h1 : 0 ≤ x) (h2 : x ≤ 255) (h3 : 0 ≤ y) (h4 : y ≤ 255) (h5 : 0 ≤ p) (h6 : p ≤ 255) (hc : w.cell? ⟨B, 0, none⟩ = some (.int .i64 p)) :
    Calls Try.prog 39 #[.int .i64 x, .int .i64 y, .pointer (some ⟨B, 0, none⟩)] w fun e w' => e = .returned (.int .u8 (shareZ x y p)) ∧ w = w' := by
  have l := shareZ_lo h1 h3 h5 h6
  have u := shareZ_hi h2 h4 h5 h6
  go_enter Try.func39, Try.ntmps39
  go_wp2_with (go_at_call 40; refine (share_any _ _ _ _ (by assumption) (by assumption) (by assumption) (by assumption) (by assumption) (by assumption)).mono ?_; rintro e w' ⟨rfl, rfl⟩)
  go_ret
  exact ⟨rfl, rfl⟩

set_option maxHeartbeats 400000 in
theorem mix1_any (x y p : Int) (B : Nat) (w : World) (h1 : 0 ≤ x) (h2 : x ≤ 255) (h3 : 0 ≤ y) (h4 : y ≤ 255) (h5 : 0 ≤ p) (h6 : p ≤ 255) (hc : w.cell? ⟨B, 0, none⟩ = some (.int .u8 p)) :
    Calls Try.prog 41 #[.int .i64 x, .int .i64 y, .pointer (some ⟨B, 0, none⟩)] w fun e w' => e = .returned (.int .u8 (shareZ x y p)) ∧ w = w' := by
  have l := shareZ_lo h1 h3 h5 h6
  have u := shareZ_hi h2 h4 h5 h6
  go_enter Try.func41, Try.ntmps41
  go_wp2_with (go_at_call 40; refine (share_any _ _ _ _ (by assumption) (by assumption) (by assumption) (by assumption) (by assumption) (by assumption)).mono ?_; rintro e w' ⟨rfl, rfl⟩)
  go_ret
  exact ⟨rfl, rfl⟩

def farZ (x y : Int) : Int := max x y - min x y
set_option maxHeartbeats 400000 in
theorem far1_any (x y : Int) (w : World) (h1 : 0 ≤ x) (h2 : x ≤ 255) (h3 : 0 ≤ y) (h4 : y ≤ 255) :
    Calls Try.prog 36 #[.int .i64 x, .int .i64 y] w fun e w' => e = .returned (.int .i64 (farZ x y)) ∧ w = w' := by
  go_enter Try.func36, Try.ntmps36
  go_wp2
  all_goals
    go_ret
    exact ⟨congrArg (fun n => Ending.returned (Value.int .i64 n)) (by unfold farZ; omega), rfl⟩

set_option maxHeartbeats 400000 in
theorem of_any (a b c d : Int) (w : World) :
    Calls Try.prog 37 #[.agg #[.int .u8 a, .int .u8 b, .int .u8 c, .int .u8 d]] w fun e w' => e = .returned (.agg #[.int .u8 a, .int .u8 b, .int .u8 c, .int .u8 d]) ∧ Below w.heap.size w w' := by
  go_enter Try.func37, Try.ntmps37
  go_wp2
  exact bodyPost_ret (v := .agg #[.int .u8 a, .int .u8 b, .int .u8 c, .int .u8 d]) (by simp [results, Try.f37, go_sem]) rfl ⟨rfl, ((Below.refl _ _).alloc (Nat.le_refl _) _).alloc (by simp) _⟩

set_option maxHeartbeats 400000 in
theorem rparts_any (a b c d : Int) (w : World) (ha : 0 ≤ a ∧ a ≤ 255) (hb : 0 ≤ b ∧ b ≤ 255) (hc : 0 ≤ c ∧ c ≤ 255) (hd : 0 ≤ d ∧ d ≤ 255) :
    Calls Try.prog 30 #[.agg #[.int .u8 a, .int .u8 b, .int .u8 c, .int .u8 d]] w fun e w' => e = .returned (.agg #[.int .i64 a, .int .i64 b, .int .i64 c, .int .i64 d]) ∧ Below w.heap.size w w' := by
  obtain ⟨ha, ha'⟩ := ha; obtain ⟨hb, hb'⟩ := hb; obtain ⟨hc, hc'⟩ := hc; obtain ⟨hd, hd'⟩ := hd
  go_enter Try.func30, Try.ntmps30
  go_wp2
  exact bodyPost_ret (v := .agg #[.int .i64 a, .int .i64 b, .int .i64 c, .int .i64 d]) (by simp [results, Try.f30, go_sem]) rfl ⟨rfl, ((Below.refl _ _).alloc (Nat.le_refl _) _).alloc (by simp) _⟩

set_option maxHeartbeats 400000 in
theorem rof_any (a b c d : Int) (w : World) (ha : 0 ≤ a ∧ a ≤ 255) (hb : 0 ≤ b ∧ b ≤ 255) (hc : 0 ≤ c ∧ c ≤ 255) (hd : 0 ≤ d ∧ d ≤ 255) :
    Calls Try.prog 34 #[.agg #[.int .i64 a, .int .i64 b, .int .i64 c, .int .i64 d]] w fun e w' => e = .returned (.agg #[.int .u8 a, .int .u8 b, .int .u8 c, .int .u8 d]) ∧ Below w.heap.size w w' := by
  obtain ⟨ha, ha'⟩ := ha; obtain ⟨hb, hb'⟩ := hb; obtain ⟨hc, hc'⟩ := hc; obtain ⟨hd, hd'⟩ := hd
  go_enter Try.func34, Try.ntmps34
  go_wp2
  exact bodyPost_ret (v := .agg #[.int .u8 a, .int .u8 b, .int .u8 c, .int .u8 d]) (by simp [results, Try.f34, go_sem]) rfl ⟨rfl, ((Below.refl _ _).alloc (Nat.le_refl _) _).alloc (by simp) _⟩

set_option maxHeartbeats 400000 in
theorem unpack_any (x : Int) (w : World) (h0 : 0 ≤ x) (h1 : x < 4294967296) :
    Calls Try.prog 14 #[.int .u32 x] w fun e w' => e = .returned (.agg #[.int .u8 (x / 16777216), .int .u8 (x / 65536 % 256), .int .u8 (x / 256 % 256), .int .u8 (x % 256)]) ∧ Below w.heap.size w w' := by
  go_enter Try.func14, Try.ntmps14
  go_wp2
  exact bodyPost_ret (v := .agg #[.int .u8 (x / 16777216), .int .u8 (x / 65536 % 256), .int .u8 (x / 256 % 256), .int .u8 (x % 256)]) (by simp [results, Try.f14, go_sem]) rfl ⟨rfl, (Below.refl _ _).alloc (Nat.le_refl _) _⟩

set_option maxHeartbeats 400000 in
theorem between_any (x y z : Int) (w : World) :
    Calls Try.prog 22 #[.int .u8 x, .int .u8 y, .int .u8 z] w fun e w' => e = .returned (.bool (decide (min x y ≤ z ∧ z ≤ max x y))) ∧ w = w' := by
  go_enter Try.func22, Try.ntmps22
  go_wp2
  all_goals
    go_ret
    exact ⟨congrArg (fun b => Ending.returned (Value.bool b)) (by rw [Bool.eq_iff_iff]; simp; omega), rfl⟩
end Go.Proofs.Ytnladfpckejogaa
