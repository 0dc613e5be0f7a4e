/- Walks: the colour of a text: Read. -/
import Derived.Test.YtnladfpckejogaaV
namespace Go.Proofs.Ytnladfpckejogaa
open Go.RowKit Go.Shelf
attribute [local go_sem] Oper.semAt_some

/-- the word of digits, on from x -/
def foldV (x : Int) : List UInt8 → Option Int
  | [] => some x
  | b :: l => match digV (b.toNat : Int) with | some d => foldV (x * 16 + d) l | none => none
/-- the word of a text -/
def readV (s : ByteArray) : Option Int := if s.size = 8 then foldV 0 s.data.toList else none
def readR : Option Int → Value
  | some x => .tuple #[.agg #[.int .u8 (x / 16777216), .int .u8 (x / 65536 % 256), .int .u8 (x / 256 % 256), .int .u8 (x % 256)], .int .i64 0]
  | none => .tuple #[.agg #[.int .u8 0, .int .u8 0, .int .u8 0, .int .u8 0], .int .i64 130]

theorem or_nib {x p : Int} (h0 : 0 ≤ x) (h1 : x < 268435456) (h2 : 0 ≤ p) (h3 : p < 16) : bits .or .u32 (x * 16) p = x * 16 + p := by
  rw [u32_or _ _ (by omega) (by omega) (by omega) (by omega)]
  have hx := Int.toNat_of_nonneg h0
  have hp := Int.toNat_of_nonneg h2
  have e : (x * 16).toNat = 2 ^ 4 * x.toNat := by omega
  rw [e, ← Nat.two_pow_add_eq_or_of_lt (b := p.toNat) (i := 4) (by omega) x.toNat]
  omega

set_option maxRecDepth 100000 in
set_option maxHeartbeats 1000000 in
theorem read_any (s : ByteArray) (w : World) :
    Calls Try.prog 15 #[.string s] w fun e w' => e = .returned (readR (readV s)) ∧ Below w.heap.size w w' := by
  have hmf : ∀ (fn : Fn) (first cap : Array Value) (w : World), (Instr.makeFunc fn first cap).run Try.prog w = .ok (.func fn first cap) w := fun _ _ _ _ => rfl
  by_cases h8 : s.size = 8
  · go_enter_defers Try.func15, Try.ntmps15
    go_wp2
    generalize hX : World.alloc _ _ = X
    have hs : w.heap.size + 1 + 1 = X.heap.size := by rw [← hX]; simp
    have x0 : Has X w.heap.size (.cells #[.int .u8 0, .int .u8 0, .int .u8 0, .int .u8 0] 27 (0, 0)) := by rw [← hX]; exact (Has.new' (by simp)).alloc _
    have x1 : Has X (w.heap.size + 1) (.cells #[.int .i64 0] 32 (0, 0)) := by rw [← hX]; exact Has.new' (by simp)
    have bX : Below w.heap.size w X := by rw [← hX]; exact ((Below.refl _ _).alloc (by simp) _).alloc (by simp) _
    clear hX
    rw [hs]
    have A := Lib.hid (And.intro h8 (And.intro hs (And.intro x0 (And.intro x1 bX))))
    clear h8 hs x0 x1 bX
    go_loopg [4] 8 (fun n v wr => ∃ (pos : Nat) (x : Int), pos ≤ 8 ∧ n = 8 - pos ∧ wr = X.iter s pos ∧ v = .int .u32 x ∧ 0 ≤ x ∧ x < 16 ^ pos ∧ foldV x (s.data.toList.drop pos) = readV s)
    case atStart => exact ⟨0, 0, by omega, by omega, rfl, rfl, by omega, by omega, by rw [readV, if_pos A.out.1]; rfl⟩
    case round =>
      obtain ⟨pos, x, hp, hn, rfl, rfl, hx0, hx1, hf⟩ := hrel
      by_cases hlt : pos < s.size
      · have hnx := run_next_any (P := Try.prog) X s pos 0 hlt
        have hbd := decode_le s pos
        have hdrop : s.data.toList.drop pos = s[pos]'hlt :: s.data.toList.drop (pos + 1) := by
          rw [List.drop_eq_getElem_cons (by rw [Array.length_toList]; exact hlt)]; rfl
        cases hd : digV ((Utf8.decode s pos).1 : Int) with
        | none =>
          have hr : readV s = none := by
            rw [← hf, hdrop]
            unfold foldV
            by_cases ha : (s[pos]'hlt).toNat < 128
            · rw [decode_ascii s pos hlt ha] at hd
              simp only at hd
              rw [hd]
            · have : digV ((s[pos]'hlt).toNat : Int) = none := by unfold digV; rw [if_neg (by omega), if_neg (by omega)]
              rw [this]
          have B := Lib.hid (And.intro hn (And.intro hf (And.intro hd (And.intro hdrop hr))))
          clear hn hf hd hdrop hr
          go_wp2_with (fail)
          refine (digit_any _ _ (by omega) (by omega)).mono ?_
          rintro e w' ⟨he, rfl⟩
          rw [B.out.2.2.1] at he
          subst he
          go_wp2
          obtain ⟨_, hs, x0, x1, bX⟩ := A.out
          have ls := x1.lt
          refine leaves_cons (f := 32) (args := #[.pointer (some ⟨w.heap.size, 0, none⟩), .pointer (some ⟨w.heap.size + 1, 0, none⟩)]) (by simp) (by simp [go_sem]) ?_
          refine (catch_panicking _ _ [] _ rfl rfl (x0.alloc (.stringIter s _)) (x1.alloc (.stringIter s _)) (by omega)).mono ?_
          rintro e u' w'' ⟨rfl, rfl, h0, h1, hG⟩
          have bW := (bX.alloc (by omega) (.stringIter s (pos + (Utf8.decode s pos).2))).trans (hG.below (by simp; omega) (by simp))
          have f4 := h0.four
          have c1 : w''.cell? ⟨w.heap.size + 1, 0, none⟩ = some (.int .i64 130) := h1.cell 0
          rw [B.out.2.2.2.2]
          simp [Leaves, settle, results, Try.f15, go_sem, readR, f4, c1]
          exact bW
        | some d =>
          have ha : (s[pos]'hlt).toNat < 128 := by
            rcases Nat.lt_or_ge (s[pos]'hlt).toNat 128 with h | h
            · exact h
            · have := (decode_high s pos hlt h).1
              unfold digV at hd
              rw [if_neg (by omega), if_neg (by omega)] at hd
              cases hd
          rw [decode_ascii s pos hlt ha] at hnx
          rw [decode_ascii s pos hlt ha] at hd
          simp only at hnx hd
          have db := digV_bd hd
          have hp7 : pos < 8 := by rw [← A.out.1]; exact hlt
          have hx2 : x < 268435456 := by
            have h : (16 : Int) ^ pos ≤ 16 ^ 7 := by exact_mod_cast Nat.pow_le_pow_right (n := 16) (by omega) (show pos ≤ 7 by omega)
            have e : (16 : Int) ^ 7 = 268435456 := by decide
            omega
          have ho := or_nib hx0 hx2 db.1 db.2
          have hx3 : x * 16 + d < 16 ^ (pos + 1) := by
            rw [Int.pow_succ]; omega
          rw [hdrop] at hf
          unfold foldV at hf
          rw [hd] at hf
          simp only at hf
          have B := Lib.hid (And.intro hn (And.intro hf (And.intro hd (And.intro hdrop hx3))))
          have b1 := (s[pos]'hlt).toNat_lt
          clear hn hf hd hdrop hx1 hx3 hbd ha
          go_wp2_with (fail)
          refine (digit_any _ _ (by omega) (by omega)).mono ?_
          rintro e w' ⟨he, rfl⟩
          rw [B.out.2.2.1] at he
          subst he
          go_wp2
          go_roundg (8 - (pos + 1))
          case measure => have := B.out.1; omega
          case rel => exact ⟨pos + 1, _, hp7, rfl, rfl, rfl, by omega, B.out.2.2.2.2, B.out.2.1⟩
      · have hnx := run_next_end (P := Try.prog) X s pos 0 hlt
        have h8 := A.out.1
        obtain rfl : pos = 8 := by omega
        rw [List.drop_eq_nil_of_le (by have : s.data.size = 8 := h8; simp [this])] at hf
        have hx4 : x < 4294967296 := by have e : (16 : Int) ^ 8 = 4294967296 := by decide
                                        omega
        have B := Lib.hid hf
        clear hf h8 hx1 hlt
        go_wp2_with (fail)
        refine (unpack_any x _ hx0 hx4).mono ?_
        rintro e w2 ⟨rfl, hb2⟩
        obtain ⟨_, hs, x0, x1, bX⟩ := A.out
        have ls := x1.lt
        have y0 := (x0.alloc (.stringIter s 8)).below hb2 (x0.alloc _).lt
        have y1 := (x1.alloc (.stringIter s 8)).below hb2 (x1.alloc _).lt
        have z0 := y0.put4 (.int .u8 (x / 16777216)) (.int .u8 (x / 65536 % 256)) (.int .u8 (x / 256 % 256)) (.int .u8 (x % 256))
        have z1 := y1.put4_other (r := w.heap.size) (.int .u8 (x / 16777216)) (.int .u8 (x / 65536 % 256)) (.int .u8 (x / 256 % 256)) (.int .u8 (x % 256)) (by omega)
        have bb := (bX.alloc (by omega) (.stringIter s 8)).trans (hb2.mono (by show w.heap.size ≤ (X.alloc _).heap.size; simp; omega))
        have bq := (below_put4 bb (Nat.le_refl _) (.int .u8 (x / 16777216)) (.int .u8 (x / 65536 % 256)) (.int .u8 (x / 256 % 256)) (.int .u8 (x % 256))).setCell (p := ⟨w.heap.size + 1, 0, none⟩) (by simp) (.int .i64 0)
        have t0 := z0.other (a := ⟨w.heap.size + 1, 0, none⟩) (.int .i64 0) (by simp)
        have t1 := z1.set 0 (.int .i64 0)
        have d0 := y0.four
        have d1 := y0.free4
        have d2 : (w4 w2 w.heap.size (.int .u8 (x / 16777216)) (.int .u8 (x / 65536 % 256)) (.int .u8 (x / 256 % 256)) (.int .u8 (x % 256))).cell? ⟨w.heap.size + 1, 0, none⟩ = some (.int .i64 0) := z1.cell 0
        have d3 := z1.free 0
        have T := Lib.hid (And.intro t0 (And.intro t1 bq))
        unfold w4 at d2 d3
        clear y0 y1 z0 z1 bb bq t0 t1 x0 x1 bX hs
        go_wp2
        generalize hY : World.setCell _ _ _ = Y
        obtain ⟨h0, h1, bY⟩ := T.out
        rw [hY] at h0 h1 bY
        refine leaves_cons (f := 32) (args := #[.pointer (some ⟨w.heap.size, 0, none⟩), .pointer (some ⟨w.heap.size + 1, 0, none⟩)]) (by simp) (by simp [go_sem]) ?_
        refine (catch_idle _ _ _).mono ?_
        rintro e u' w'' ⟨rfl, rfl, rfl⟩
        have f4 := h0.four
        have c1 := h1.cell 0
        have hB : readV s = some x := B.out.symm
        rw [hB]
        clear d0 d1 d2 d3 hnx T
        simp [Leaves, settle, results, Try.f15, go_sem, readR, f4, c1]
        exact bY
  · have hv : readV s = none := by simp [readV, h8]
    rw [hv]
    clear hv
    go_enter_defers Try.func15, Try.ntmps15
    go_wp2
    refine leaves_cons (f := 32) (args := #[.pointer (some ⟨w.heap.size, 0, none⟩), .pointer (some ⟨w.heap.size + 1, 0, none⟩)]) (by simp) (by simp [go_sem]) ?_
    refine (catch_idle _ _ _).mono ?_
    rintro e u' w'' ⟨rfl, rfl, rfl⟩
    have bX : Below w.heap.size w ((w.alloc (.cells #[.int .u8 0, .int .u8 0, .int .u8 0, .int .u8 0] 27 (0, 0))).alloc (.cells #[.int .i64 130] 32 (0, 0))) := ((Below.refl _ _).alloc (by simp) _).alloc (by simp) _
    simp [Leaves, settle, results, Try.f15, go_sem, readR]
    exact bX
end Go.Proofs.Ytnladfpckejogaa
