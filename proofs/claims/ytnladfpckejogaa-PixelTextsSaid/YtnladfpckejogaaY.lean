/- Walks: what the document says of the colour of a text. -/
import Derived.Test.YtnladfpckejogaaX
namespace Go.Proofs.Ytnladfpckejogaa
open Go.RowKit Go.Shelf
attribute [local go_sem] Oper.semAt_some

/-- the number of two digits -/
def pairV (b c : UInt8) : Option Int := match digV (b.toNat : Int), digV (c.toNat : Int) with
  | some d, some e => some (d * 16 + e)
  | _, _ => none
theorem pairV_bd {b c : UInt8} {v : Int} (h : pairV b c = some v) : By v := by
  unfold pairV at h
  cases h1 : digV (b.toNat : Int) with
  | none => rw [h1] at h; cases h
  | some d =>
    cases h2 : digV (c.toNat : Int) with
    | none => rw [h1, h2] at h; cases h
    | some e =>
      rw [h1, h2] at h; cases h
      have := digV_bd h1; have := digV_bd h2
      exact ⟨by omega, by omega⟩
theorem foldV_pair (x : Int) (b c : UInt8) (l : List UInt8) : foldV x (b :: c :: l) = match pairV b c with | some v => foldV (x * 256 + v) l | none => none := by
  rw [foldV]
  unfold pairV
  cases h1 : digV (b.toNat : Int) with
  | none => rfl
  | some d =>
    simp only [foldV]
    cases h2 : digV (c.toNat : Int) with
    | none => rfl
    | some e =>
      simp only []
      rw [show (x * 16 + d) * 16 + e = x * 256 + (d * 16 + e) by omega]
theorem dB_digV {q : Int} (h0 : 0 ≤ q) (h1 : q < 16) : digV ((dB q).toNat : Int) = some q := by
  rcases sixteen h0 h1 with rfl | rfl | rfl | rfl | rfl | rfl | rfl | rfl | rfl | rfl | rfl | rfl | rfl | rfl | rfl | rfl <;> rfl
theorem digV_dB {b : UInt8} {q : Int} (h : digV (b.toNat : Int) = some q) : dB q = b := by
  unfold digV at h
  have key : (if q < 10 then 48 + q else 87 + q).toNat = b.toNat := by
    split at h
    · cases h; rw [if_pos (by omega)]; omega
    · split at h
      · cases h; rw [if_neg (by omega)]; omega
      · cases h
  unfold dB
  rw [key, UInt8.ofNat_toNat]
theorem pair_hex {b c : UInt8} {n : Int} (h0 : 0 ≤ n) (h1 : n < 256) : (⟨#[dB (n / 16), dB (n % 16)]⟩ : ByteArray) = ⟨#[b, c]⟩ ↔ pairV b c = some n := by
  constructor
  · intro h
    have h := congrArg ByteArray.data h
    simp only [Array.mk.injEq, List.cons.injEq, and_true] at h
    obtain ⟨rfl, rfl⟩ := h
    unfold pairV
    rw [dB_digV (by omega) (by omega), dB_digV (by omega) (by omega)]
    simp only [Option.some.injEq]
    omega
  · intro h
    unfold pairV at h
    cases h1 : digV (b.toNat : Int) with
    | none => rw [h1] at h; cases h
    | some d =>
      cases h2 : digV (c.toNat : Int) with
      | none => rw [h1, h2] at h; cases h
      | some e =>
        rw [h1, h2] at h; simp only [Option.some.injEq] at h
        have := digV_bd h1; have := digV_bd h2
        rw [show n / 16 = d by omega, show n % 16 = e by omega, digV_dB h1, digV_dB h2]
/-- what has been found below k -/
def seenV (o : Option Int) (k : Nat) : Option Int := match o with | some v => if v < k then some v else none | none => none

theorem pair_eq_true {b c : UInt8} {n : Int} (h0 : 0 ≤ n) (h1 : n < 256) (h : pairV b c = some n) : (dB (n / 16) == b && dB (n % 16) == c) = true := by
  have := (pair_hex h0 h1).2 h
  have h := congrArg ByteArray.data this
  simp only [Array.mk.injEq, List.cons.injEq, and_true] at h
  obtain ⟨rfl, rfl⟩ := h
  simp
theorem pair_eq_false {b c : UInt8} {n : Int} (h0 : 0 ≤ n) (h1 : n < 256) (h : ¬ pairV b c = some n) : (dB (n / 16) == b && dB (n % 16) == c) = false := by
  rw [Bool.eq_false_iff]
  intro e
  simp only [Bool.and_eq_true, beq_iff_eq] at e
  obtain ⟨rfl, rfl⟩ := e
  exact h ((pair_hex h0 h1).1 rfl)
theorem seenV_hit {o : Option Int} {m : Nat} (h : o = some (m : Int)) : seenV o (m + 1 : Nat) = some (m : Int) := by
  subst h
  unfold seenV
  simp only []
  rw [if_pos (by omega)]
theorem seenV_miss {o : Option Int} {m : Nat} (h : ¬ o = some (m : Int)) : seenV o (m + 1 : Nat) = seenV o m := by
  unfold seenV
  cases o with
  | none => rfl
  | some v =>
    simp only []
    have : v ≠ m := fun e => h (by rw [e])
    by_cases hv : v < m
    · rw [if_pos hv, if_pos (by omega)]
    · rw [if_neg hv, if_neg (by omega)]
theorem seenV_all (b c : UInt8) : seenV (pairV b c) 256 = pairV b c := by
  unfold seenV
  cases h : pairV b c with
  | none => rfl
  | some v => simp only []; rw [if_pos (by have := (pairV_bd h).2; omega)]
theorem readV8 (b0 b1 b2 b3 b4 b5 b6 b7 : UInt8) : readV ⟨#[b0, b1, b2, b3, b4, b5, b6, b7]⟩ = match pairV b0 b1 with
    | some v0 => match pairV b2 b3 with
      | some v1 => match pairV b4 b5 with
        | some v2 => match pairV b6 b7 with
          | some v3 => some (((v0 * 256 + v1) * 256 + v2) * 256 + v3)
          | none => none
        | none => none
      | none => none
    | none => none := by
  show foldV 0 [b0, b1, b2, b3, b4, b5, b6, b7] = _
  rw [foldV_pair]
  cases pairV b0 b1 with
  | none => rfl
  | some v0 =>
    simp only []
    rw [foldV_pair]
    cases pairV b2 b3 with
    | none => rfl
    | some v1 =>
      simp only []
      rw [foldV_pair]
      cases pairV b4 b5 with
      | none => rfl
      | some v2 =>
        simp only []
        rw [foldV_pair]
        cases pairV b6 b7 with
        | none => rfl
        | some v3 => simp only [foldV]; congr 1; omega
theorem seenV_zero {o : Option Int} (h : ∀ v, o = some v → 0 ≤ v) : seenV o 0 = none := by
  unfold seenV
  cases o with
  | none => rfl
  | some v => simp only []; rw [if_neg (by have := h v rfl; omega)]
def rreadR : Option Int → Value
  | some x => .tuple #[.agg #[.int .u8 (x / 16777216), .int .u8 (x / 65536 % 256), .int .u8 (x / 256 % 256), .int .u8 (x % 256)], .bool true]
  | none => .tuple #[.agg #[.int .u8 0, .int .u8 0, .int .u8 0, .int .u8 0], .bool false]
/-- how far the reading is -/
def RSt (b0 b1 b2 b3 b4 b5 b6 b7 : UInt8) (q n : Nat) (i : Value) (W : World) : Prop :=
  (n = 4 ∧ i = .int .i64 0 ∧ Has W q (.cells #[.int .i64 0, .int .i64 0, .int .i64 0, .int .i64 0] 61 (0, 0)))
  ∨ (n = 3 ∧ i = .int .i64 1 ∧ ∃ v0 : Int, pairV b0 b1 = some v0 ∧ Has W q (.cells #[.int .i64 v0, .int .i64 0, .int .i64 0, .int .i64 0] 61 (0, 0)))
  ∨ (n = 2 ∧ i = .int .i64 2 ∧ ∃ v0 : Int, ∃ v1 : Int, pairV b0 b1 = some v0 ∧ pairV b2 b3 = some v1 ∧ Has W q (.cells #[.int .i64 v0, .int .i64 v1, .int .i64 0, .int .i64 0] 61 (0, 0)))
  ∨ (n = 1 ∧ i = .int .i64 3 ∧ ∃ v0 : Int, ∃ v1 : Int, ∃ v2 : Int, pairV b0 b1 = some v0 ∧ pairV b2 b3 = some v1 ∧ pairV b4 b5 = some v2 ∧ Has W q (.cells #[.int .i64 v0, .int .i64 v1, .int .i64 v2, .int .i64 0] 61 (0, 0)))
  ∨ (n = 0 ∧ i = .int .i64 4 ∧ ∃ v0 : Int, ∃ v1 : Int, ∃ v2 : Int, ∃ v3 : Int, pairV b0 b1 = some v0 ∧ pairV b2 b3 = some v1 ∧ pairV b4 b5 = some v2 ∧ pairV b6 b7 = some v3 ∧ Has W q (.cells #[.int .i64 v0, .int .i64 v1, .int .i64 v2, .int .i64 v3] 61 (0, 0)))

set_option maxRecDepth 100000 in
set_option maxHeartbeats 2000000 in
theorem rread_any (s : ByteArray) (w : World) :
    Calls Try.prog 16 #[.string s] w fun e w' => e = .returned (rreadR (readV s)) ∧ Below w.heap.size w w' := by
  by_cases h8 : s.size = 8
  · obtain ⟨b0, b1, b2, b3, b4, b5, b6, b7, rfl⟩ : ∃ b0 b1 b2 b3 b4 b5 b6 b7 : UInt8, s = ⟨#[b0, b1, b2, b3, b4, b5, b6, b7]⟩ := by
      obtain ⟨⟨l⟩⟩ := s
      match l, h8 with
      | [b0, b1, b2, b3, b4, b5, b6, b7], _ => exact ⟨b0, b1, b2, b3, b4, b5, b6, b7, rfl⟩
    clear h8
    go_enter Try.func16, Try.ntmps16
    go_wp2
    generalize hX : World.alloc _ _ = X
    have x0 : Has X w.heap.size (.cells #[.int .u8 0, .int .u8 0, .int .u8 0, .int .u8 0] 27 (0, 0)) := by rw [← hX]; exact (Has.new' (by simp)).alloc _
    have x1 : Has X (w.heap.size + 1) (.cells #[.int .i64 0, .int .i64 0, .int .i64 0, .int .i64 0] 61 (0, 0)) := by rw [← hX]; exact Has.new' (by simp)
    have bX : Below w.heap.size w X := by rw [← hX]; exact ((Below.refl _ _).alloc (by simp) _).alloc (by simp) _
    clear hX
    go_loopg [12] 4 (fun n i wr => RSt b0 b1 b2 b3 b4 b5 b6 b7 (w.heap.size + 1) n i wr ∧ Has wr w.heap.size (.cells #[.int .u8 0, .int .u8 0, .int .u8 0, .int .u8 0] 27 (0, 0)) ∧ Below w.heap.size w wr)
    case atStart => exact ⟨.inl ⟨rfl, rfl, x1⟩, x0, bX⟩
    case round =>
      clear x0 x1 bX
      obtain ⟨hx, j0, bp⟩ := hrel
      rcases hx with ⟨rfl, rfl, hx⟩ | ⟨rfl, rfl, v0, p0, hx⟩ | ⟨rfl, rfl, v0, v1, p0, p1, hx⟩ | ⟨rfl, rfl, v0, v1, v2, p0, p1, p2, hx⟩ | ⟨rfl, rfl, v0, v1, v2, v3, p0, p1, p2, p3, hx⟩
      · have PP := Lib.hid (trivial : True)
        have sl : ∀ w, (Instr.slice 9 (.string ⟨#[b0, b1, b2, b3, b4, b5, b6, b7]⟩) (some (.int .i64 0)) (some (.int .i64 2)) none).run Try.prog w = .ok (.string ⟨#[b0, b1]⟩) w := fun w => by rw [run_slice_string w 9 _ .i64 .i64 0 2 (by kernel_rfl) (by omega) (by omega) (by show (2 : Int) ≤ ((8 : Nat) : Int); omega)]; rfl
        go_wp2
        go_loopg [6, 15] 256 (fun n f i wq => ∃ k : Nat, k ≤ 256 ∧ n = 256 - k ∧ i = .int .i64 k ∧ f = .bool (seenV (pairV b0 b1) k).isSome ∧ Has wq (w.heap.size + 1) (.cells #[.int .i64 ((seenV (pairV b0 b1) k).getD 0), .int .i64 0, .int .i64 0, .int .i64 0] 61 (0, 0)) ∧ Has wq w.heap.size (.cells #[.int .u8 0, .int .u8 0, .int .u8 0, .int .u8 0] 27 (0, 0)) ∧ Below w.heap.size w wq)
        case atStart =>
          have e : seenV (pairV b0 b1) 0 = none := seenV_zero (fun v h => (pairV_bd h).1)
          refine ⟨0, by omega, rfl, rfl, ?_, ?_, j0, bp⟩
          · rw [e]; rfl
          · rw [e]; exact hx
        case round =>
          clear hx j0 bp
          obtain ⟨m, hm, hn, rfl, rfl, hc, j0, bp⟩ := hrel
          by_cases hlt : m < 256
          · go_wp2
            refine wp_region_sched [(0, false), (2, false), (3, false), (4, false), (5, false), (6, false), (7, false), (8, false), (1, true), (9, false)] (fun _ => True) (by kernel_rfl) (by kernel_rfl) trivial ?_
            repeat (refine sched_pure (v := ?_) rfl rfl ?_ ?_; rotate_left; (focus (intro Y hY; go_simp; try with_reducible rfl)); go_simp; try go_bits)
            refine sched_act rfl rfl ?_
            go_simp
            refine (hex_any (m : Int) _ (by omega) (by omega)).mono ?_
            rintro e w2 ⟨rfl, hb2⟩
            go_simp
            repeat (refine sched_pure (v := ?_) rfl rfl ?_ ?_; rotate_left; (focus (intro Y hY; go_simp; try with_reducible rfl)); go_simp; try go_bits)
            have hc2 := hc.drew.below hb2 hc.drew.lt
            have j2 := j0.drew.below hb2 j0.drew.lt
            have bq := bp.drew.trans (hb2.mono (by have := bp.size; exact this))
            have lc := hc2.lt
            clear hc j0 bp
            by_cases hq : pairV b0 b1 = some (m : Int)
            · rw [pair_eq_true (by omega) (by omega) hq]
              have c : w2.cell? ⟨w.heap.size + 1, 0, none⟩ = some (.int .i64 ((seenV (pairV b0 b1) m).getD 0)) := hc2.cell 0
              have f := hc2.free 0
              have fin : ∀ Y, w2.setCell ⟨w.heap.size + 1, 0, none⟩ (.int .i64 m) = Y → Has Y (w.heap.size + 1) (.cells #[.int .i64 ((seenV (pairV b0 b1) (m + 1 : Nat)).getD 0), .int .i64 0, .int .i64 0, .int .i64 0] 61 (0, 0)) ∧ Has Y w.heap.size (.cells #[.int .u8 0, .int .u8 0, .int .u8 0, .int .u8 0] 27 (0, 0)) ∧ Below w.heap.size w Y := by
                rintro Y rfl
                rw [seenV_hit hq]
                exact ⟨hc2.set 0 _, j2.other (a := ⟨w.heap.size + 1, 0, none⟩) _ (by simp), bq.setCell (p := ⟨w.heap.size + 1, 0, none⟩) (by simp) _⟩
              have Hf := Lib.hid (And.intro hq fin)
              clear fin hq hc2 j2 bq hb2
              refine sched_end ?_
              go_wp2
              go_roundg (256 - (m + 1))
              case measure => omega
              case rel => exact ⟨m + 1, hlt, rfl, rfl, by rw [seenV_hit Hf.out.1]; rfl, Hf.out.2 _ rfl⟩
            · rw [pair_eq_false (by omega) (by omega) hq]
              have Hf := Lib.hid (And.intro hq (And.intro hc2 (And.intro j2 bq)))
              clear hq hc2 j2 bq hb2
              refine sched_end ?_
              go_wp2
              go_roundg (256 - (m + 1))
              case measure => omega
              case rel => exact ⟨m + 1, hlt, rfl, rfl, by rw [seenV_miss Hf.out.1], by rw [seenV_miss Hf.out.1]; exact Hf.out.2.1, Hf.out.2.2⟩
          · obtain rfl : m = 256 := by omega
            rw [seenV_all] at hc
            rw [seenV_all]
            cases hq : pairV b0 b1 with
            | none =>
              rw [hq] at hc
              have hr : readV ⟨#[b0, b1, b2, b3, b4, b5, b6, b7]⟩ = none := by
                have PP := PP.out
                rw [readV8, hq]
              have c := j0.four
              have f := j0.free4
              have H := Lib.hid (And.intro hq (And.intro hr (And.intro j0 bp)))
              clear hq hr j0 bp hc
              go_wp2
              have h4 := H.out.2.2.1.put4 (.int .u8 0) (.int .u8 0) (.int .u8 0) (.int .u8 0)
              have b4 := below_put4 H.out.2.2.2 (Nat.le_refl _) (.int .u8 0) (.int .u8 0) (.int .u8 0) (.int .u8 0)
              have e4 := h4.four
              unfold w4 at e4 b4
              exact bodyPost_ret (v := rreadR none) (by simp [results, Try.f16, go_sem, rreadR, e4]) rfl ⟨by rw [H.out.2.1], b4⟩
            | some v =>
              rw [hq] at hc
              have H := Lib.hid (And.intro hq (And.intro hc (And.intro j0 bp)))
              clear hq hc j0 bp
              go_wp2
              go_roundg 3
              case measure => omega
              case rel =>
                have PP := PP.out
                exact ⟨.inr (.inl ⟨rfl, rfl, v, H.out.1, H.out.2.1⟩), H.out.2.2.1, H.out.2.2.2⟩
      · have PP := Lib.hid ((And.intro p0 trivial) : pairV b0 b1 = some v0 ∧ True)
        clear p0
        have sl : ∀ w, (Instr.slice 9 (.string ⟨#[b0, b1, b2, b3, b4, b5, b6, b7]⟩) (some (.int .i64 2)) (some (.int .i64 4)) none).run Try.prog w = .ok (.string ⟨#[b2, b3]⟩) w := fun w => by rw [run_slice_string w 9 _ .i64 .i64 2 4 (by kernel_rfl) (by omega) (by omega) (by show (4 : Int) ≤ ((8 : Nat) : Int); omega)]; rfl
        go_wp2
        go_loopg [6, 15] 256 (fun n f i wq => ∃ k : Nat, k ≤ 256 ∧ n = 256 - k ∧ i = .int .i64 k ∧ f = .bool (seenV (pairV b2 b3) k).isSome ∧ Has wq (w.heap.size + 1) (.cells #[.int .i64 v0, .int .i64 ((seenV (pairV b2 b3) k).getD 0), .int .i64 0, .int .i64 0] 61 (0, 0)) ∧ Has wq w.heap.size (.cells #[.int .u8 0, .int .u8 0, .int .u8 0, .int .u8 0] 27 (0, 0)) ∧ Below w.heap.size w wq)
        case atStart =>
          have e : seenV (pairV b2 b3) 0 = none := seenV_zero (fun v h => (pairV_bd h).1)
          refine ⟨0, by omega, rfl, rfl, ?_, ?_, j0, bp⟩
          · rw [e]; rfl
          · rw [e]; exact hx
        case round =>
          clear hx j0 bp
          obtain ⟨m, hm, hn, rfl, rfl, hc, j0, bp⟩ := hrel
          by_cases hlt : m < 256
          · go_wp2
            refine wp_region_sched [(0, false), (2, false), (3, false), (4, false), (5, false), (6, false), (7, false), (8, false), (1, true), (9, false)] (fun _ => True) (by kernel_rfl) (by kernel_rfl) trivial ?_
            repeat (refine sched_pure (v := ?_) rfl rfl ?_ ?_; rotate_left; (focus (intro Y hY; go_simp; try with_reducible rfl)); go_simp; try go_bits)
            refine sched_act rfl rfl ?_
            go_simp
            refine (hex_any (m : Int) _ (by omega) (by omega)).mono ?_
            rintro e w2 ⟨rfl, hb2⟩
            go_simp
            repeat (refine sched_pure (v := ?_) rfl rfl ?_ ?_; rotate_left; (focus (intro Y hY; go_simp; try with_reducible rfl)); go_simp; try go_bits)
            have hc2 := hc.drew.below hb2 hc.drew.lt
            have j2 := j0.drew.below hb2 j0.drew.lt
            have bq := bp.drew.trans (hb2.mono (by have := bp.size; exact this))
            have lc := hc2.lt
            clear hc j0 bp
            by_cases hq : pairV b2 b3 = some (m : Int)
            · rw [pair_eq_true (by omega) (by omega) hq]
              have c : w2.cell? ⟨w.heap.size + 1, 1, none⟩ = some (.int .i64 ((seenV (pairV b2 b3) m).getD 0)) := hc2.cell 1
              have f := hc2.free 1
              have fin : ∀ Y, w2.setCell ⟨w.heap.size + 1, 1, none⟩ (.int .i64 m) = Y → Has Y (w.heap.size + 1) (.cells #[.int .i64 v0, .int .i64 ((seenV (pairV b2 b3) (m + 1 : Nat)).getD 0), .int .i64 0, .int .i64 0] 61 (0, 0)) ∧ Has Y w.heap.size (.cells #[.int .u8 0, .int .u8 0, .int .u8 0, .int .u8 0] 27 (0, 0)) ∧ Below w.heap.size w Y := by
                rintro Y rfl
                rw [seenV_hit hq]
                exact ⟨hc2.set 1 _, j2.other (a := ⟨w.heap.size + 1, 1, none⟩) _ (by simp), bq.setCell (p := ⟨w.heap.size + 1, 1, none⟩) (by simp) _⟩
              have Hf := Lib.hid (And.intro hq fin)
              clear fin hq hc2 j2 bq hb2
              refine sched_end ?_
              go_wp2
              go_roundg (256 - (m + 1))
              case measure => omega
              case rel => exact ⟨m + 1, hlt, rfl, rfl, by rw [seenV_hit Hf.out.1]; rfl, Hf.out.2 _ rfl⟩
            · rw [pair_eq_false (by omega) (by omega) hq]
              have Hf := Lib.hid (And.intro hq (And.intro hc2 (And.intro j2 bq)))
              clear hq hc2 j2 bq hb2
              refine sched_end ?_
              go_wp2
              go_roundg (256 - (m + 1))
              case measure => omega
              case rel => exact ⟨m + 1, hlt, rfl, rfl, by rw [seenV_miss Hf.out.1], by rw [seenV_miss Hf.out.1]; exact Hf.out.2.1, Hf.out.2.2⟩
          · obtain rfl : m = 256 := by omega
            rw [seenV_all] at hc
            rw [seenV_all]
            cases hq : pairV b2 b3 with
            | none =>
              rw [hq] at hc
              have hr : readV ⟨#[b0, b1, b2, b3, b4, b5, b6, b7]⟩ = none := by
                have PP := PP.out
                rw [readV8, (show pairV b0 b1 = some v0 from PP.1), hq]
              have c := j0.four
              have f := j0.free4
              have H := Lib.hid (And.intro hq (And.intro hr (And.intro j0 bp)))
              clear hq hr j0 bp hc
              go_wp2
              have h4 := H.out.2.2.1.put4 (.int .u8 0) (.int .u8 0) (.int .u8 0) (.int .u8 0)
              have b4 := below_put4 H.out.2.2.2 (Nat.le_refl _) (.int .u8 0) (.int .u8 0) (.int .u8 0) (.int .u8 0)
              have e4 := h4.four
              unfold w4 at e4 b4
              exact bodyPost_ret (v := rreadR none) (by simp [results, Try.f16, go_sem, rreadR, e4]) rfl ⟨by rw [H.out.2.1], b4⟩
            | some v =>
              rw [hq] at hc
              have H := Lib.hid (And.intro hq (And.intro hc (And.intro j0 bp)))
              clear hq hc j0 bp
              go_wp2
              go_roundg 2
              case measure => omega
              case rel =>
                have PP := PP.out
                exact ⟨.inr (.inr (.inl ⟨rfl, rfl, v0, v, PP.1, H.out.1, H.out.2.1⟩)), H.out.2.2.1, H.out.2.2.2⟩
      · have PP := Lib.hid ((And.intro p0 (And.intro p1 trivial)) : pairV b0 b1 = some v0 ∧ pairV b2 b3 = some v1 ∧ True)
        clear p0 p1
        have sl : ∀ w, (Instr.slice 9 (.string ⟨#[b0, b1, b2, b3, b4, b5, b6, b7]⟩) (some (.int .i64 4)) (some (.int .i64 6)) none).run Try.prog w = .ok (.string ⟨#[b4, b5]⟩) w := fun w => by rw [run_slice_string w 9 _ .i64 .i64 4 6 (by kernel_rfl) (by omega) (by omega) (by show (6 : Int) ≤ ((8 : Nat) : Int); omega)]; rfl
        go_wp2
        go_loopg [6, 15] 256 (fun n f i wq => ∃ k : Nat, k ≤ 256 ∧ n = 256 - k ∧ i = .int .i64 k ∧ f = .bool (seenV (pairV b4 b5) k).isSome ∧ Has wq (w.heap.size + 1) (.cells #[.int .i64 v0, .int .i64 v1, .int .i64 ((seenV (pairV b4 b5) k).getD 0), .int .i64 0] 61 (0, 0)) ∧ Has wq w.heap.size (.cells #[.int .u8 0, .int .u8 0, .int .u8 0, .int .u8 0] 27 (0, 0)) ∧ Below w.heap.size w wq)
        case atStart =>
          have e : seenV (pairV b4 b5) 0 = none := seenV_zero (fun v h => (pairV_bd h).1)
          refine ⟨0, by omega, rfl, rfl, ?_, ?_, j0, bp⟩
          · rw [e]; rfl
          · rw [e]; exact hx
        case round =>
          clear hx j0 bp
          obtain ⟨m, hm, hn, rfl, rfl, hc, j0, bp⟩ := hrel
          by_cases hlt : m < 256
          · go_wp2
            refine wp_region_sched [(0, false), (2, false), (3, false), (4, false), (5, false), (6, false), (7, false), (8, false), (1, true), (9, false)] (fun _ => True) (by kernel_rfl) (by kernel_rfl) trivial ?_
            repeat (refine sched_pure (v := ?_) rfl rfl ?_ ?_; rotate_left; (focus (intro Y hY; go_simp; try with_reducible rfl)); go_simp; try go_bits)
            refine sched_act rfl rfl ?_
            go_simp
            refine (hex_any (m : Int) _ (by omega) (by omega)).mono ?_
            rintro e w2 ⟨rfl, hb2⟩
            go_simp
            repeat (refine sched_pure (v := ?_) rfl rfl ?_ ?_; rotate_left; (focus (intro Y hY; go_simp; try with_reducible rfl)); go_simp; try go_bits)
            have hc2 := hc.drew.below hb2 hc.drew.lt
            have j2 := j0.drew.below hb2 j0.drew.lt
            have bq := bp.drew.trans (hb2.mono (by have := bp.size; exact this))
            have lc := hc2.lt
            clear hc j0 bp
            by_cases hq : pairV b4 b5 = some (m : Int)
            · rw [pair_eq_true (by omega) (by omega) hq]
              have c : w2.cell? ⟨w.heap.size + 1, 2, none⟩ = some (.int .i64 ((seenV (pairV b4 b5) m).getD 0)) := hc2.cell 2
              have f := hc2.free 2
              have fin : ∀ Y, w2.setCell ⟨w.heap.size + 1, 2, none⟩ (.int .i64 m) = Y → Has Y (w.heap.size + 1) (.cells #[.int .i64 v0, .int .i64 v1, .int .i64 ((seenV (pairV b4 b5) (m + 1 : Nat)).getD 0), .int .i64 0] 61 (0, 0)) ∧ Has Y w.heap.size (.cells #[.int .u8 0, .int .u8 0, .int .u8 0, .int .u8 0] 27 (0, 0)) ∧ Below w.heap.size w Y := by
                rintro Y rfl
                rw [seenV_hit hq]
                exact ⟨hc2.set 2 _, j2.other (a := ⟨w.heap.size + 1, 2, none⟩) _ (by simp), bq.setCell (p := ⟨w.heap.size + 1, 2, none⟩) (by simp) _⟩
              have Hf := Lib.hid (And.intro hq fin)
              clear fin hq hc2 j2 bq hb2
              refine sched_end ?_
              go_wp2
              go_roundg (256 - (m + 1))
              case measure => omega
              case rel => exact ⟨m + 1, hlt, rfl, rfl, by rw [seenV_hit Hf.out.1]; rfl, Hf.out.2 _ rfl⟩
            · rw [pair_eq_false (by omega) (by omega) hq]
              have Hf := Lib.hid (And.intro hq (And.intro hc2 (And.intro j2 bq)))
              clear hq hc2 j2 bq hb2
              refine sched_end ?_
              go_wp2
              go_roundg (256 - (m + 1))
              case measure => omega
              case rel => exact ⟨m + 1, hlt, rfl, rfl, by rw [seenV_miss Hf.out.1], by rw [seenV_miss Hf.out.1]; exact Hf.out.2.1, Hf.out.2.2⟩
          · obtain rfl : m = 256 := by omega
            rw [seenV_all] at hc
            rw [seenV_all]
            cases hq : pairV b4 b5 with
            | none =>
              rw [hq] at hc
              have hr : readV ⟨#[b0, b1, b2, b3, b4, b5, b6, b7]⟩ = none := by
                have PP := PP.out
                rw [readV8, (show pairV b0 b1 = some v0 from PP.1), (show pairV b2 b3 = some v1 from PP.2.1), hq]
              have c := j0.four
              have f := j0.free4
              have H := Lib.hid (And.intro hq (And.intro hr (And.intro j0 bp)))
              clear hq hr j0 bp hc
              go_wp2
              have h4 := H.out.2.2.1.put4 (.int .u8 0) (.int .u8 0) (.int .u8 0) (.int .u8 0)
              have b4 := below_put4 H.out.2.2.2 (Nat.le_refl _) (.int .u8 0) (.int .u8 0) (.int .u8 0) (.int .u8 0)
              have e4 := h4.four
              unfold w4 at e4 b4
              exact bodyPost_ret (v := rreadR none) (by simp [results, Try.f16, go_sem, rreadR, e4]) rfl ⟨by rw [H.out.2.1], b4⟩
            | some v =>
              rw [hq] at hc
              have H := Lib.hid (And.intro hq (And.intro hc (And.intro j0 bp)))
              clear hq hc j0 bp
              go_wp2
              go_roundg 1
              case measure => omega
              case rel =>
                have PP := PP.out
                exact ⟨.inr (.inr (.inr (.inl ⟨rfl, rfl, v0, v1, v, PP.1, PP.2.1, H.out.1, H.out.2.1⟩))), H.out.2.2.1, H.out.2.2.2⟩
      · have PP := Lib.hid ((And.intro p0 (And.intro p1 (And.intro p2 trivial))) : pairV b0 b1 = some v0 ∧ pairV b2 b3 = some v1 ∧ pairV b4 b5 = some v2 ∧ True)
        clear p0 p1 p2
        have sl : ∀ w, (Instr.slice 9 (.string ⟨#[b0, b1, b2, b3, b4, b5, b6, b7]⟩) (some (.int .i64 6)) (some (.int .i64 8)) none).run Try.prog w = .ok (.string ⟨#[b6, b7]⟩) w := fun w => by rw [run_slice_string w 9 _ .i64 .i64 6 8 (by kernel_rfl) (by omega) (by omega) (by show (8 : Int) ≤ ((8 : Nat) : Int); omega)]; rfl
        go_wp2
        go_loopg [6, 15] 256 (fun n f i wq => ∃ k : Nat, k ≤ 256 ∧ n = 256 - k ∧ i = .int .i64 k ∧ f = .bool (seenV (pairV b6 b7) k).isSome ∧ Has wq (w.heap.size + 1) (.cells #[.int .i64 v0, .int .i64 v1, .int .i64 v2, .int .i64 ((seenV (pairV b6 b7) k).getD 0)] 61 (0, 0)) ∧ Has wq w.heap.size (.cells #[.int .u8 0, .int .u8 0, .int .u8 0, .int .u8 0] 27 (0, 0)) ∧ Below w.heap.size w wq)
        case atStart =>
          have e : seenV (pairV b6 b7) 0 = none := seenV_zero (fun v h => (pairV_bd h).1)
          refine ⟨0, by omega, rfl, rfl, ?_, ?_, j0, bp⟩
          · rw [e]; rfl
          · rw [e]; exact hx
        case round =>
          clear hx j0 bp
          obtain ⟨m, hm, hn, rfl, rfl, hc, j0, bp⟩ := hrel
          by_cases hlt : m < 256
          · go_wp2
            refine wp_region_sched [(0, false), (2, false), (3, false), (4, false), (5, false), (6, false), (7, false), (8, false), (1, true), (9, false)] (fun _ => True) (by kernel_rfl) (by kernel_rfl) trivial ?_
            repeat (refine sched_pure (v := ?_) rfl rfl ?_ ?_; rotate_left; (focus (intro Y hY; go_simp; try with_reducible rfl)); go_simp; try go_bits)
            refine sched_act rfl rfl ?_
            go_simp
            refine (hex_any (m : Int) _ (by omega) (by omega)).mono ?_
            rintro e w2 ⟨rfl, hb2⟩
            go_simp
            repeat (refine sched_pure (v := ?_) rfl rfl ?_ ?_; rotate_left; (focus (intro Y hY; go_simp; try with_reducible rfl)); go_simp; try go_bits)
            have hc2 := hc.drew.below hb2 hc.drew.lt
            have j2 := j0.drew.below hb2 j0.drew.lt
            have bq := bp.drew.trans (hb2.mono (by have := bp.size; exact this))
            have lc := hc2.lt
            clear hc j0 bp
            by_cases hq : pairV b6 b7 = some (m : Int)
            · rw [pair_eq_true (by omega) (by omega) hq]
              have c : w2.cell? ⟨w.heap.size + 1, 3, none⟩ = some (.int .i64 ((seenV (pairV b6 b7) m).getD 0)) := hc2.cell 3
              have f := hc2.free 3
              have fin : ∀ Y, w2.setCell ⟨w.heap.size + 1, 3, none⟩ (.int .i64 m) = Y → Has Y (w.heap.size + 1) (.cells #[.int .i64 v0, .int .i64 v1, .int .i64 v2, .int .i64 ((seenV (pairV b6 b7) (m + 1 : Nat)).getD 0)] 61 (0, 0)) ∧ Has Y w.heap.size (.cells #[.int .u8 0, .int .u8 0, .int .u8 0, .int .u8 0] 27 (0, 0)) ∧ Below w.heap.size w Y := by
                rintro Y rfl
                rw [seenV_hit hq]
                exact ⟨hc2.set 3 _, j2.other (a := ⟨w.heap.size + 1, 3, none⟩) _ (by simp), bq.setCell (p := ⟨w.heap.size + 1, 3, none⟩) (by simp) _⟩
              have Hf := Lib.hid (And.intro hq fin)
              clear fin hq hc2 j2 bq hb2
              refine sched_end ?_
              go_wp2
              go_roundg (256 - (m + 1))
              case measure => omega
              case rel => exact ⟨m + 1, hlt, rfl, rfl, by rw [seenV_hit Hf.out.1]; rfl, Hf.out.2 _ rfl⟩
            · rw [pair_eq_false (by omega) (by omega) hq]
              have Hf := Lib.hid (And.intro hq (And.intro hc2 (And.intro j2 bq)))
              clear hq hc2 j2 bq hb2
              refine sched_end ?_
              go_wp2
              go_roundg (256 - (m + 1))
              case measure => omega
              case rel => exact ⟨m + 1, hlt, rfl, rfl, by rw [seenV_miss Hf.out.1], by rw [seenV_miss Hf.out.1]; exact Hf.out.2.1, Hf.out.2.2⟩
          · obtain rfl : m = 256 := by omega
            rw [seenV_all] at hc
            rw [seenV_all]
            cases hq : pairV b6 b7 with
            | none =>
              rw [hq] at hc
              have hr : readV ⟨#[b0, b1, b2, b3, b4, b5, b6, b7]⟩ = none := by
                have PP := PP.out
                rw [readV8, (show pairV b0 b1 = some v0 from PP.1), (show pairV b2 b3 = some v1 from PP.2.1), (show pairV b4 b5 = some v2 from PP.2.2.1), hq]
              have c := j0.four
              have f := j0.free4
              have H := Lib.hid (And.intro hq (And.intro hr (And.intro j0 bp)))
              clear hq hr j0 bp hc
              go_wp2
              have h4 := H.out.2.2.1.put4 (.int .u8 0) (.int .u8 0) (.int .u8 0) (.int .u8 0)
              have b4 := below_put4 H.out.2.2.2 (Nat.le_refl _) (.int .u8 0) (.int .u8 0) (.int .u8 0) (.int .u8 0)
              have e4 := h4.four
              unfold w4 at e4 b4
              exact bodyPost_ret (v := rreadR none) (by simp [results, Try.f16, go_sem, rreadR, e4]) rfl ⟨by rw [H.out.2.1], b4⟩
            | some v =>
              rw [hq] at hc
              have H := Lib.hid (And.intro hq (And.intro hc (And.intro j0 bp)))
              clear hq hc j0 bp
              go_wp2
              go_roundg 0
              case measure => omega
              case rel =>
                have PP := PP.out
                exact ⟨.inr (.inr (.inr (.inr (⟨rfl, rfl, v0, v1, v2, v, PP.1, PP.2.1, PP.2.2.1, H.out.1, H.out.2.1⟩)))), H.out.2.2.1, H.out.2.2.2⟩
      · have y0 := pairV_bd p0
        have y1 := pairV_bd p1
        have y2 := pairV_bd p2
        have y3 := pairV_bd p3
        have d := hx.four
        have hr : readV ⟨#[b0, b1, b2, b3, b4, b5, b6, b7]⟩ = some (((v0 * 256 + v1) * 256 + v2) * 256 + v3) := by rw [readV8, p0, p1, p2, p3]
        have H := Lib.hid (And.intro hr (And.intro j0 (And.intro bp (And.intro y0 (And.intro y1 (And.intro y2 y3))))))
        clear hr j0 bp hx y0 y1 y2 y3 p0 p1 p2 p3
        go_wp2_with (fail)
        obtain ⟨hr, j0, bp, y0, y1, y2, y3⟩ := H.out
        refine (rof_any _ _ _ _ _ y0 y1 y2 y3).mono ?_
        rintro e w2 ⟨rfl, hb2⟩
        have l3 := j0.below hb2 j0.lt
        have bb := bp.trans (hb2.mono bp.size)
        have c4 := l3.four
        have f4 := l3.free4
        have h4 := l3.put4 (.int .u8 v0) (.int .u8 v1) (.int .u8 v2) (.int .u8 v3)
        have b4 := below_put4 bb (Nat.le_refl _) (.int .u8 v0) (.int .u8 v1) (.int .u8 v2) (.int .u8 v3)
        have T := Lib.hid (And.intro hr (And.intro h4 (And.intro b4 (And.intro y0 (And.intro y1 (And.intro y2 y3))))))
        clear hr h4 b4 y0 y1 y2 y3 H bb l3 j0 bp d
        go_wp2
        obtain ⟨hr, h4, b4, y0, y1, y2, y3⟩ := T.out
        have e4 := h4.four
        unfold w4 at e4 b4
        unfold By at y0 y1 y2 y3
        exact bodyPost_ret (v := .tuple #[.agg #[.int .u8 v0, .int .u8 v1, .int .u8 v2, .int .u8 v3], .bool true]) (by simp [results, Try.f16, go_sem, e4]) rfl ⟨by rw [hr]; unfold rreadR; congr <;> omega, b4⟩
  · have hv : readV s = none := by rw [readV, if_neg h8]
    rw [hv]
    clear hv
    go_enter Try.func16, Try.ntmps16
    go_wp2
    have bX : Below w.heap.size w (w.alloc (.cells #[.int .u8 0, .int .u8 0, .int .u8 0, .int .u8 0] 27 (0, 0))) := (Below.refl _ _).alloc (by simp) _
    exact bodyPost_ret (v := rreadR none) (by simp [results, Try.f16, go_sem, rreadR]) rfl ⟨rfl, bX⟩
end Go.Proofs.Ytnladfpckejogaa
