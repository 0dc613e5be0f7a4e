/- Walks: places of a tile. -/
import Derived.Test.YtedckelfdkfkoaaA
import Derived.Sort.LoopGhostIn
namespace Go.Proofs.Ytedckelfdkfkoaa
open Go.RowKit Go.Shelf
attribute [local go_sem] Oper.semAt_some
attribute [local go_sem] round_fn round_depth wide_fn wide_depth
attribute [local go_sem 2000] run_col run_tile
attribute [local go_sem ↓] zero25 build25 build176z build176 load25 store25
attribute [local go_sem] rowAt_alloc rowFree_alloc rowAt_drew rowFree_drew

/-- is there such a pixel? -/
def isB (x y : Int) : Bool := decide (0 ≤ x ∧ x < 8 ∧ 0 ≤ y ∧ y < 8)
theorem isB_true {x y : Int} (h : isB x y = true) : ∃ a b : Nat, a < 8 ∧ b < 8 ∧ x = (a : Int) ∧ y = (b : Int) := by
  have h' : 0 ≤ x ∧ x < 8 ∧ 0 ≤ y ∧ y < 8 := by simpa [isB] using h
  obtain ⟨a, rfl⟩ := Int.eq_ofNat_of_zero_le h'.1
  obtain ⟨b, rfl⟩ := Int.eq_ofNat_of_zero_le h'.2.2.1
  exact ⟨a, b, by omega, by omega, rfl, rfl⟩
theorem isB_nat {a b : Nat} (ha : a < 8) (hb : b < 8) : isB (a : Int) (b : Int) = true := by simp [isB]; omega
theorem isB_iff {x y : Int} : isB x y = true ↔ 0 ≤ x ∧ x < 8 ∧ 0 ≤ y ∧ y < 8 := by simp [isB]
theorem isB_not {x y : Int} : isB x y = false ↔ ¬ (0 ≤ x ∧ x < 8 ∧ 0 ≤ y ∧ y < 8) := by rw [← isB_iff]; simp

set_option maxHeartbeats 400000 in
theorem is_any (x y : Int) (w : World) : Calls Try.prog 131 #[.int .i64 x, .int .i64 y] w fun e w' => e = .returned (.bool (isB x y)) ∧ w = w' := by
  go_enter Try.func131, Try.ntmps131
  go_wp2
  all_goals
    go_ret
    exact ⟨congrArg (fun b => Ending.returned (Value.bool b)) (by unfold isB; rw [Bool.eq_iff_iff]; simp; omega), rfl⟩
set_option maxHeartbeats 400000 in
theorem ris_any (x y : Int) (w : World) : Calls Try.prog 43 #[.int .i64 x, .int .i64 y] w fun e w' => e = .returned (.bool (isB x y)) ∧ w = w' := by
  go_enter Try.func43, Try.ntmps43
  go_wp2
  all_goals
    go_ret
    exact ⟨congrArg (fun b => Ending.returned (Value.bool b)) (by unfold isB; rw [Bool.eq_iff_iff]; simp; omega), rfl⟩

set_option maxRecDepth 100000 in
set_option maxHeartbeats 400000 in
theorem rat_any (T : List Col) (a b : Nat) (w : World) (hT : T.length = 64) (ha : a < 8) (hb : b < 8) :
    Calls Try.prog 44 #[.agg (tileA T), .int .i64 (a : Int), .int .i64 (b : Int)] w fun e w' => e = .returned (colV (atT T (8 * b + a))) ∧ Below w.heap.size w w' := by
  have f := tile_at (T := T) (k := 8 * b + a) (by omega)
  generalize atT T (8 * b + a) = c at *
  generalize hA : tileA T = A at *
  have HA := Lib.hid hA; clear hA hT
  go_enter Try.func44, Try.ntmps44
  go_wp2
  exact bodyPost_ret (v := colV c) (by simp [results, Try.f44, go_sem]) rfl ⟨rfl, ((Below.refl _ _).alloc (Nat.le_refl _) _).alloc (by simp) _⟩

/-- a pixel put -/
def putT (T : List Col) (x y : Int) (c : Col) : List Col := if isB x y = true then T.set (y * 8 + x).toNat c else T
theorem putT_length (T : List Col) (x y : Int) (c : Col) : (putT T x y c).length = T.length := by unfold putT; split <;> simp
theorem putT_by {T : List Col} {x y : Int} {c : Col} (hT : ∀ d ∈ T, ByC d) (hc : ByC c) : ∀ d ∈ putT T x y c, ByC d := by
  unfold putT
  split
  · intro d hd
    rcases List.mem_or_eq_of_mem_set hd with h | h
    · exact hT d h
    · rw [h]; exact hc
  · exact hT

set_option maxRecDepth 100000 in
set_option maxHeartbeats 1000000 in
theorem put_any (T : List Col) (r : Nat) (x y : Int) (c : Col) (w : World) (hT : T.length = 64) (h : Has w r (.cells (tileA T) 176 (0, 0))) :
    Calls Try.prog 132 #[.pointer (some ⟨r, 0, none⟩), .int .i64 x, .int .i64 y, colV c] w fun e w' =>
      e = .returned (.bool (isB x y)) ∧ Has w' r (.cells (tileA (putT T x y c)) 176 (0, 0)) ∧ Grew [r] w w' := by
  have hr := h.lt
  cases hB : isB x y with
  | false =>
    have HB := Lib.hid hB
    have e : putT T x y c = T := by unfold putT; rw [hB]; rfl
    rw [e]
    have H := Lib.hid (And.intro h hT)
    clear e hB h hT
    go_enter Try.func132, Try.ntmps132
    go_wp2_with (go_at_call 131; refine (is_any _ _ _).mono ?_; rintro e w' ⟨he, rfl⟩; rw [HB.out] at he; subst he)
    go_ret
    exact ⟨rfl, H.out.1.alloc _, (Grew.refl _ _).alloc _⟩
  | true =>
    obtain ⟨a, b, ha, hb, rfl, rfl⟩ := isB_true hB
    have HB := Lib.hid hB
    have e : putT T a b c = T.set (b * 8 + a) c := by unfold putT; rw [hB, if_pos rfl]; congr 1
    rw [e]
    have f := tile_at (T := T) (k := b * 8 + a) (by omega)
    have hk : b * 8 + a < T.length := by omega
    obtain ⟨c0, c1, c2, c3⟩ := c
    obtain ⟨d, hd⟩ : ∃ d, atT T (b * 8 + a) = d := ⟨_, rfl⟩
    rw [hd] at f
    have q0 := h.cell ((b * 8 + a) * 4)
    have q1 := h.cell ((b * 8 + a) * 4 + 1)
    have q2 := h.cell ((b * 8 + a) * 4 + 2)
    have q3 := h.cell ((b * 8 + a) * 4 + 3)
    rw [f.1] at q0; rw [f.2.1] at q1; rw [f.2.2.1] at q2; rw [f.2.2.2] at q3
    have f0 := h.free ((b * 8 + a) * 4)
    have f1 := h.free ((b * 8 + a) * 4 + 1)
    have f2 := h.free ((b * 8 + a) * 4 + 2)
    have f3 := h.free ((b * 8 + a) * 4 + 3)
    have H := Lib.hid (And.intro h (And.intro hT (And.intro hd hk)))
    clear e hB h hT f hd hk
    go_enter Try.func132, Try.ntmps132
    go_wp2_with (go_at_call 131; refine (is_any _ _ _).mono ?_; rintro e w' ⟨he, rfl⟩; rw [HB.out] at he; subst he)
    have i1 : (0 : Int) ≤ (b : Int) * 8 + (a : Int) := by omega
    have i2 : (b : Int) * 8 + (a : Int) < 64 := by omega
    refine wp_region_sched [(0, false), (1, false), (2, false), (3, false), (4, false), (5, false), (6, false), (7, false), (8, false), (9, true)] (fun Y => Has Y w.heap.size (.cells #[.int .u8 c0, .int .u8 c1, .int .u8 c2, .int .u8 c3] 23 (0, 0))) (by kernel_rfl) (by kernel_rfl) (Has.new _ _) ?_
    repeat (refine sched_pure (v := ?_) rfl rfl ?_ ?_; rotate_left; (focus (intro Y hY; have y0 := hY.four; go_simp; try with_reducible rfl)); go_simp; try go_bits)
    refine sched_act rfl rfl ?_
    go_simp
    refine ⟨(Has.new' (by simp)).drew, ?_⟩
    refine sched_end ?_
    go_simp
    go_wp2
    go_ret
    exact ⟨rfl, ((H.out.1.putCol (b * 8 + a) H.out.2.2.2 (c0, c1, c2, c3)).alloc _).drew, ((((((Grew.refl [r] w).setCell (a := ⟨r, _, none⟩) _ (.inl (by simp))).setCell (a := ⟨r, _, none⟩) _ (.inl (by simp))).setCell (a := ⟨r, _, none⟩) _ (.inl (by simp))).setCell (a := ⟨r, _, none⟩) _ (.inl (by simp))).alloc _).drew⟩

set_option maxHeartbeats 400000 in
theorem each_any (w : World) : Calls Try.prog 130 #[] w fun e w' => e = .returned (.func (.func 195) #[] #[]) ∧ w = w' := by
  go_enter Try.func130, Try.ntmps130
  go_wp2
  go_ret
  exact ⟨rfl, rfl⟩

set_option maxRecDepth 100000 in
set_option maxHeartbeats 2000000 in
theorem each1_iter (n₀ : Nat) (w : World) : Iter Try.prog 195 #[] encP placesL n₀ w := by
  intro l J Jx W hW hJ hJx hY h0
  have HY := Lib.hid hY
  have H0 := Lib.hid h0
  clear hJ hJx hY h0 hW
  refine callsIn_of_wp Try.func195 rfl trivial ?_ rfl
  simp only [Try.ntmps195, List.size_toArray, List.length_cons, List.length_nil, Nat.reduceAdd, Nat.reduceSub, Array.replicate_succ, Array.replicate_zero, List.push_toArray, List.append_toArray, List.nil_append, List.cons_append]
  refine wpIn_scope_straight (fun _ _ _ h => h) ?_
  refine wpIn_seq_label ?_
  gi_wp2
  gi_loopg [4] 8 (fun n i wr => ∃ b : Nat, b ≤ 8 ∧ n = 8 - b ∧ i = .int .i64 b ∧ Hid (J (placesL.take (b * 8)) wr))
  case atStart => exact ⟨0, by omega, by omega, rfl, H0⟩
  case round =>
    obtain ⟨b, hb, hn, rfl, hj⟩ := hrel
    by_cases hlt : b < 8
    · have HN := Lib.hid hn
      clear hn
      have hd : decide ((b : Int) < 8) = true := by simp; omega
      gi_wp2
      clear hd
      obtain ⟨wo, rfl⟩ : ∃ wo : World, wo = wr := ⟨_, rfl⟩
      gi_loopg [7] 8 (fun n i wr => ∃ a : Nat, a ≤ 8 ∧ n = 8 - a ∧ i = .int .i64 a ∧ Hid (J (placesL.take (b * 8 + a)) wr))
      case atStart => exact ⟨0, by omega, by omega, rfl, hj⟩
      case round =>
        clear hj
        obtain ⟨a, ha, hn, rfl, hj⟩ := hrel
        by_cases hla : a < 8
        · have hx : placesL[b * 8 + a]? = some ((a : Int), (b : Int)) := by
            rw [placesL_at (by omega), show (b * 8 + a) % 8 = a by omega, show (b * 8 + a) / 8 = b by omega]
          obtain ⟨f0, t0, as0, bo0, hy0, hR0⟩ := HY.out (placesL.take (b * 8 + a)) ((a : Int), (b : Int)) wr hj.out (take_snoc_prefix hx)
          dsimp only [encP] at hy0
          have HN2 := Lib.hid hn
          have HX := Lib.hid hx
          clear hn hj hx
          gi_wp2
          refine hR0.mono ?_
          rintro e W0 (⟨rfl, hJ0, _⟩ | ⟨rfl, hx0⟩)
          · have HJ := Lib.hid hJ0
            clear hJ0 hR0 hy0
            gi_wp2
            gi_roundg (8 - (a + 1))
            case measure => have := HN2.out; omega
            case rel => exact ⟨a + 1, by omega, rfl, by go_num, Lib.hid (by have h := HJ.out; rw [take_snoc HX.out] at h; exact h)⟩
          · gi_wp2
            go_end0
            exact ⟨⟨_, rfl⟩, .inr ⟨_, take_snoc_prefix HX.out, hx0⟩⟩
        · obtain rfl : a = 8 := by omega
          clear hn
          gi_wp2
          gi_roundg (8 - (b + 1))
          case measure => have := HN.out; omega
          case rel => exact ⟨b + 1, by omega, rfl, by go_num, Lib.hid (by have h := hj.out; rw [show b * 8 + 8 = (b + 1) * 8 by omega] at h; exact h)⟩
    · obtain rfl : b = 8 := by omega
      gi_wp2
      go_end0
      exact ⟨⟨_, rfl⟩, .inl (by have h := hj.out; rwa [List.take_of_length_le (by rw [placesL_length]; omega)] at h)⟩
end Go.Proofs.Ytedckelfdkfkoaa
