/- Walks: words of colours. -/
import Derived.Test.YtnladfpckejogaaD
import Derived.Laws.BitsAllLaws
namespace Go.Proofs.Ytnladfpckejogaa
open Go.RowKit Go.Shelf
attribute [local go_sem] Oper.semAt_some
attribute [local go_sem] round_fn round_depth wide_fn wide_depth

def packZ (r g b a : Int) : Int := ((r * 256 + g) * 256 + b) * 256 + a
/-- the word, so far -/
def packTo (pre : List (Int × Int)) : Int := pre.foldl (fun x p => x * 256 + p.2) 0

theorem packTo_snoc (pre : List (Int × Int)) (x : Int × Int) : packTo (pre ++ [x]) = packTo pre * 256 + x.2 := by simp [packTo]
theorem or_word {x p : Int} (h0 : 0 ≤ x) (h1 : x < 16777216) (h2 : 0 ≤ p) (h3 : p < 256) : bits .or .u32 (x * 256 % 4294967296) (p % 4294967296) = x * 256 + p := by
  rw [Int.emod_eq_of_lt (by omega) (by omega), Int.emod_eq_of_lt h2 (by omega), u32_or _ _ (by omega) (by omega) (by omega) (by omega)]
  have hx := Int.toNat_of_nonneg h0
  have hp := Int.toNat_of_nonneg h2
  have e : (x * 256).toNat = 2 ^ 8 * x.toNat := by omega
  rw [e, ← Nat.two_pow_add_eq_or_of_lt (b := p.toNat) (i := 8) (by omega) x.toNat]
  omega
theorem packTo_bd {r g b a : Int} (hr : By r) (hg : By g) (hb : By b) {pre : List (Int × Int)} {x : Int × Int} (h : pre ++ [x] <+: partsL r g b a) : 0 ≤ packTo pre ∧ packTo pre < 16777216 := by
  unfold By at *
  rcases partsL_cases h with ⟨rfl, rfl⟩ | ⟨rfl, rfl⟩ | ⟨rfl, rfl⟩ | ⟨rfl, rfl⟩ <;> simp [packTo] <;> omega
theorem partsL_by {r g b a : Int} (hr : By r) (hg : By g) (hb : By b) (ha : By a) {pre : List (Int × Int)} {x : Int × Int} (h : pre ++ [x] <+: partsL r g b a) : By x.2 := by
  rcases partsL_cases h with ⟨rfl, rfl⟩ | ⟨rfl, rfl⟩ | ⟨rfl, rfl⟩ | ⟨rfl, rfl⟩ <;> assumption
theorem packTo_all (r g b a : Int) : packTo (partsL r g b a) = packZ r g b a := by simp [packTo, partsL, packZ]

set_option maxRecDepth 100000 in
set_option maxHeartbeats 1000000 in
theorem pack_any (r g b a : Int) (w : World) (hr : By r) (hg : By g) (hb : By b) (ha : By a) :
    Calls Try.prog 10 #[.agg #[.int .u8 r, .int .u8 g, .int .u8 b, .int .u8 a]] w fun e w' => e = .returned (.int .u32 (packZ r g b a)) ∧ Below w.heap.size w w' := by
  refine calls_of_wp_marks Try.func10 rfl ?_
  simp only [Try.ntmps10, List.size_toArray, List.length_cons, List.length_nil, Nat.reduceAdd, Nat.reduceSub, Array.replicate_succ, Array.replicate_zero, List.push_toArray, List.append_toArray, List.nil_append, List.cons_append]
  go_wp2_with (go_at_call 29; refine (parts_any _ _ _ _ _).mono ?_; rintro e w' ⟨rfl, rfl⟩)
  generalize hW0 : World.alloc _ _ = W0
  have hsz : W0.heap.size = w.heap.size + 3 := by rw [← hW0]; simp
  have b0 : Below w.heap.size w W0 := by rw [← hW0]; exact (((Below.refl _ _).alloc (by simp) _).alloc (by simp) _).alloc (by simp; omega) _
  have h1 : Has W0 (w.heap.size + 1) (.cells #[.int .u32 0] 28 (0, 0)) := by rw [← hW0]; exact (Has.new' (by simp)).alloc _
  have h2 : Has W0 (w.heap.size + 1 + 1) (.cells #[.int .u8 r, .int .u8 g, .int .u8 b, .int .u8 a] 58 (0, 0)) := by rw [← hW0]; exact Has.new' (by simp)
  clear hW0
  refine wp_range rfl (enters_of Try.func42 (by kernel_rfl) rfl) (parts1_iter (w.heap.size + 1 + 1) w.heap.size r g b a W0 (by omega) (by omega) hr hg hb ha (h2.cell 0) (h2.cell 1) (h2.cell 2) (h2.cell 3)) (by omega) (Below.refl _ _) (fun _ => rfl)
    (fun pre W => Grew [w.heap.size + 1] W0 W ∧ Has W (w.heap.size + 1) (.cells #[.int .u32 (packTo pre)] 28 (0, 0))) (OwnFrom.and own_grew (has_own _ _ _ _ _)) ⟨Grew.refl _ _, h1⟩
    ?round ?done
  case round =>
    intro l pre x W _ hpre
    gi_wp2
    refine ⟨rfl, ?_⟩
    rintro W ⟨hG, hF⟩
    have c : W.cell? ⟨w.heap.size + 1, 0, none⟩ = some (.int .u32 (packTo pre)) := hF.cell 0
    have f := hF.free 0
    have fin : ∀ (v : Int), v = packTo (pre ++ [x]) →
        KeepsFrom W0.heap.size W (W.setCell ⟨w.heap.size + 1, 0, none⟩ (.int .u32 v)) ∧ Below w.heap.size W (W.setCell ⟨w.heap.size + 1, 0, none⟩ (.int .u32 v)) ∧ Grew [w.heap.size + 1] W0 (W.setCell ⟨w.heap.size + 1, 0, none⟩ (.int .u32 v)) ∧ Has (W.setCell ⟨w.heap.size + 1, 0, none⟩ (.int .u32 v)) (w.heap.size + 1) (.cells #[.int .u32 (packTo (pre ++ [x]))] 28 (0, 0)) := by
      intro v he
      refine ⟨(KeepsOthers.setCell _ _ _).from _, (Below.refl _ _).setCell (by simp) _, hG.setCell _ (.inl (by simp)), ?_⟩
      rw [← he]; exact hF.set 0 (.int .u32 v)
    have Hf := Lib.hid fin; clear fin
    gi_wp2
    have p1 := packTo_bd hr hg hb hpre
    have p2 := partsL_by hr hg hb ha hpre
    exact Hf.out _ (by rw [or_word p1.1 p1.2 p2.1 (by have := p2.2; omega), packTo_snoc])
  case done =>
    intro D W hD ⟨hG, hF⟩ hK
    have c : W.cell? ⟨w.heap.size + 1, 0, none⟩ = some (.int .u32 (packZ r g b a)) := by rw [← packTo_all]; exact hF.cell 0
    have bW := b0.trans (hG.below (by omega) (by simp))
    have Hsz := Lib.hid hsz; clear hsz
    go_wp2
    exact leaves_mark hK (leaves_end (results_tmp rfl _ _ _) ⟨rfl, bW.trans (belowK_b (w := w) (Nat.le_refl _) _ _ _ _ (by have := Hsz.out; omega) hK rfl rfl)⟩)

set_option maxHeartbeats 400000 in
theorem rpack_any (r g b a : Int) (w : World) (hr : By r) (hg : By g) (hb : By b) (ha : By a) :
    Calls Try.prog 11 #[.agg #[.int .u8 r, .int .u8 g, .int .u8 b, .int .u8 a]] w fun e w' => e = .returned (.int .u32 (packZ r g b a)) ∧ Below w.heap.size w w' := by
  go_enter Try.func11, Try.ntmps11
  go_wp2_with (fail)
  generalize hW0 : World.alloc _ _ = W0
  have b0 : Below w.heap.size w W0 := by rw [← hW0]; exact (Below.refl _ _).alloc (by simp) _
  clear hW0
  refine (rparts_any _ _ _ _ _ hr hg hb ha).mono ?_
  rintro e w1 ⟨rfl, hb1⟩
  have b1 := b0.trans (hb1.mono b0.size)
  have := b1.size
  obtain ⟨r0, r1⟩ := hr; obtain ⟨g0, g1⟩ := hg; obtain ⟨bb0, bb1⟩ := hb; obtain ⟨a0, a1⟩ := ha
  go_wp2
  go_ret
  exact ⟨congrArg (fun n => Ending.returned (Value.int .u32 n)) (by unfold packZ; omega), b1.alloc this _⟩
end Go.Proofs.Ytnladfpckejogaa
