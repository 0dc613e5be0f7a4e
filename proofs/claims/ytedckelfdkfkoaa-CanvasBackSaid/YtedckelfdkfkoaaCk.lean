/- Walks: an empty canvas. -/
import Derived.Test.YtedckelfdkfkoaaCb
import Derived.Laws.MakeOwn
namespace Go.Proofs.Ytedckelfdkfkoaa
open Go.RowKit Go.Shelf
attribute [local go_sem] Oper.semAt_some
attribute [local go_sem 2000] run_col run_tile
attribute [local go_sem ↓] Go.wp_at_zero Go.wp_at_succ
attribute [local go_sem ↓] zero25 build25 build176z build176 load25 store25
attribute [local go_sem] rowAt_alloc rowFree_alloc rowAt_drew rowFree_drew zeroA_size zc176 zeroA_ones blkOf_ptr aggOf_agg

/-- a row of n nil pointers -/
def nils (n : Nat) : Array Value := madeCells #[.pointer none] n
theorem nils_size (n : Nat) : (nils n).size = n := size_madeCells _ _
theorem info183 : ∃ i, Try.prog.info? 183 = some i ∧ i.zero = some (.pointer none) ∧ i.size = 1 ∧ i.bytes = 8 := by
  have h : (Try.prog.info? 183).map (fun i => (i.zero, i.size, i.bytes)) = some (some (.pointer none), 1, 8) := by kernel_rfl
  exact info_parts h
theorem make181 (n : Nat) (hn : n ≤ 16) (w : World) : (Instr.makeSlice 181 (.int .i64 (n : Int)) (.int .i64 (n : Int))).run Try.prog w = .ok (.slice (some ⟨w.heap.size, 0, none⟩) n n) (w.alloc (.cells (nils n) 183)) := by
  obtain ⟨i, hi, hz, hs, hb⟩ := info183
  have h := run_make (P := Try.prog) w 181 183 i (.pointer none) (by kernel_rfl) hi hz .i64 .i64 (n : Int) (n : Int) (by omega) (by omega) (by rw [hb]; omega) (by omega)
  rw [hs] at h
  simpa [nils, Value.cells] using h

/-- the row of a new canvas on the way -/
def RowSt (W : World) (g m k : Nat) (e : Nat) : Prop := ∃ cs : Array Value, Has W g (.cells cs 183 (0, 0)) ∧ cs.size = m ∧ ∀ j, j < k → cs[j]? = some (ptrV e)
theorem RowSt.cell {W : World} {g m k e : Nat} (h : RowSt W g m k e) (hk : k < m) : (∃ v, W.cell? ⟨g, k, none⟩ = some v) ∧ W.frozen? ⟨g, k, none⟩ = false := by
  obtain ⟨cs, h1, h2, _⟩ := h
  exact ⟨⟨cs[k]'(by omega), (h1.cell k).trans (Array.getElem?_eq_getElem (by omega))⟩, h1.free k⟩
theorem RowSt.set {W : World} {g m k e : Nat} (h : RowSt W g m k e) (hk : k < m) : RowSt (W.setCell ⟨g, k, none⟩ (ptrV e)) g m (k + 1) e := by
  obtain ⟨cs, h1, h2, h3⟩ := h
  refine ⟨_, h1.set k _, by simp [h2], fun j hj => ?_⟩
  by_cases hjk : j = k
  · subst hjk; rw [Array.getElem?_setIfInBounds_self_of_lt (by omega)]
  · rw [Array.getElem?_setIfInBounds_ne (by omega)]; exact h3 j (by omega)
theorem RowSt.lt {W : World} {g m k e : Nat} (h : RowSt W g m k e) : g < W.heap.size := by obtain ⟨cs, h1, _⟩ := h; exact h1.lt
/-- an empty canvas -/
def cnew (a b e : Nat) : Cv := { w := a, h := b, ps := List.replicate (a * b) e, Ts := List.replicate (a * b) blankT }

set_option maxHeartbeats 1000000 in
theorem cnew_no (x y : Int) (w : World) (h : mayB x y = false) : Calls Try.prog 66 #[.int .i64 x, .int .i64 y] w fun e w' => e = .returned (.tuple #[.pointer none, .int .i64 2]) ∧ Below w.heap.size w w' := by
  have HB := Lib.hid h
  clear h
  go_enter Try.func66, Try.ntmps66
  go_wp2_with (fail)
  refine (may_any x y _).mono ?_
  rintro e w1 ⟨rfl, b1⟩
  rw [HB.out]
  have S1 := Lib.hid (((Since.refl w).alloc _).step b1)
  clear b1
  go_wp2
  go_ret2
  exact ⟨rfl, S1.out⟩

def CNew (a b : Nat) (w : World) (e : Ending) (w' : World) : Prop := ∃ p r, e = .returned (.tuple #[ptrV p, .int .i64 0]) ∧ CvAt w' p (cnew a b r) ∧ w.heap.size ≤ p ∧ w.heap.size ≤ r ∧ Below w.heap.size w w'
set_option maxRecDepth 100000 in
set_option maxHeartbeats 2000000 in
theorem cnew_yes (a b : Nat) (w : World) (h : mayB a b = true) : Calls Try.prog 66 #[.int .i64 (a : Int), .int .i64 (b : Int)] w (CNew a b w) := by
  have h' := mayB_iff.1 h
  obtain ⟨m, hm⟩ : ∃ m, a * b = m := ⟨_, rfl⟩
  have m16 : m ≤ 16 := by rw [← hm]; exact Nat.mul_le_mul (show a ≤ 4 by omega) (show b ≤ 4 by omega)
  have m1 : 1 ≤ m := by rw [← hm]; exact Nat.mul_le_mul (show 1 ≤ a by omega) (show 1 ≤ b by omega)
  have hxy : (a : Int) * (b : Int) = (m : Int) := by rw [← hm]; push_cast; rfl
  have hmk := make181 m m16
  have HB := Lib.hid (And.intro h (And.intro h' hm))
  clear h h' hm
  go_enter Try.func66, Try.ntmps66
  go_wp2_with (fail)
  refine (may_any a b _).mono ?_
  rintro e w1 ⟨rfl, b1⟩
  rw [HB.out.1]
  have o1 := ((Has.new w (.cells #[.int .i64 (a : Int), .int .i64 (b : Int)] 186 (0, 0))).below b1 (Has.new _ _).lt)
  have s1 : Since w w1 := ((Since.refl w).alloc _).step b1
  have l1 := o1.lt
  have S1 := Lib.hid (And.intro s1 o1)
  clear s1 o1 b1
  go_wp2
  refine wp_region_sched [(0, false), (1, false), (2, false), (3, false), (4, true), (5, false), (6, true), (7, false)] (Since w1) (by kernel_rfl) (by kernel_rfl) (Since.refl w1).drew ?_
  repeat (refine sched_pure (v := ?_) rfl rfl ?_ ?_; rotate_left; (focus (intro Y hY; have y0 := (S1.out.2.since hY).two; go_simp; try with_reducible rfl)); go_simp; try go_bits)
  refine sched_act rfl rfl ?_
  go_simp
  refine ⟨((Since.refl w1).alloc _).drew, ?_⟩
  clear hmk hxy
  repeat (refine sched_pure (v := ?_) rfl rfl ?_ ?_; rotate_left; (focus (intro Y hY; go_simp; try with_reducible rfl)); go_simp; try go_bits)
  refine sched_act rfl rfl ?_
  go_simp
  refine ⟨(((Since.refl w1).alloc _).alloc _).drew, ?_⟩
  repeat (refine sched_pure (v := ?_) rfl rfl ?_ ?_; rotate_left; (focus (intro Y hY; go_simp; try with_reducible rfl)); go_simp; try go_bits)
  refine sched_end ?_
  generalize hX : World.drew _ = X
  have sX : Since w1 X := by rw [← hX]; exact (((Since.refl w1).alloc _).alloc _).drew
  have szX : X.heap.size = w1.heap.size + 2 := by rw [← hX]; simp
  have gX : Has X w1.heap.size (.cells (nils m) 183 (0, 0)) := by rw [← hX]; exact ((Has.new _ _).alloc _).drew
  have cX : Has X (w1.heap.size + 1) (.cells #[.int .i64 (a : Int), .int .i64 (b : Int), .slice (some ⟨w1.heap.size, 0, none⟩) m m] 188 (0, 0)) := by rw [← hX]; exact (Has.new' (by simp)).drew
  have q0 := (cX.alloc (.cells zeroA 25)).three
  have lX := cX.lt
  have HX := Lib.hid (And.intro sX (And.intro szX (And.intro gX cX)))
  clear hX sX szX gX cX
  go_wp2
  obtain ⟨g, hg⟩ : ∃ g, w1.heap.size = g := ⟨_, rfl⟩
  obtain ⟨r, hr⟩ : ∃ r, X.heap.size = r := ⟨_, rfl⟩
  clear q0 lX
  rw [hg, hr]
  generalize hV : World.alloc _ _ = V
  have sV : Since w1 V := by rw [← hV]; exact HX.out.1.alloc _
  have gV : Has V g (.cells (nils m) 183 (0, 0)) := by rw [← hV, ← hg]; exact HX.out.2.2.1.alloc _
  have cV : Has V (g + 1) (.cells #[.int .i64 (a : Int), .int .i64 (b : Int), .slice (some ⟨g, 0, none⟩) m m] 188 (0, 0)) := by rw [← hV, ← hg]; exact HX.out.2.2.2.alloc _
  have rV : Has V r (.cells (tileA blankT) 25 (0, 0)) := by rw [← hV, ← hr]; exact Has.new _ _
  have lo : w.heap.size ≤ g ∧ g + 1 < r := by have := S1.out.1.size; have := HX.out.2.1; omega
  have HV := Lib.hid (And.intro sV (And.intro cV (And.intro rV (And.intro lo (And.intro hg hr)))))
  have st0 : RowSt V g m 0 r := ⟨nils m, gV, nils_size m, fun j hj => by omega⟩
  clear hV sV gV cV rV lo HX hg hr
  go_loopg [30] m (fun n i wr => ∃ k : Nat, k ≤ m ∧ n = m - k ∧ i = .int .i64 k ∧ RowSt wr g m k r ∧ Grew [g] V wr)
  case atStart => exact ⟨0, by omega, by omega, rfl, st0, Grew.refl _ _⟩
  case round =>
    clear st0
    obtain ⟨k, hk, hn, rfl, hst, hG⟩ := hrel
    by_cases hlt : k < m
    · have q0 := (HV.out.2.1.grew hG (by simp)).three
      have lg := hst.lt
      obtain ⟨⟨v, hc⟩, hf⟩ := hst.cell hlt
      have J := Lib.hid (And.intro hn (And.intro hst hG))
      clear hn hst hG
      go_wp2
      go_roundg (m - (k + 1))
      case measure => have := J.out.1; omega
      case rel => exact ⟨k + 1, hlt, rfl, by go_num, J.out.2.1.set hlt, J.out.2.2.setCell (a := ⟨g, k, none⟩) _ (.inl (by simp))⟩
    · obtain rfl : k = m := by omega
      have J := Lib.hid (And.intro hst hG)
      clear hn hst hG
      go_wp2
      go_ret2
      obtain ⟨⟨cs, h1, h2, h3⟩, hG⟩ := J.out
      obtain ⟨sV, cV, rV, lo, hg, hr⟩ := HV.out
      obtain ⟨hB, hB', hm⟩ := HB.out
      have nr : r ≠ g := by omega
      refine ⟨g + 1, r, rfl, ⟨g, k, ?_⟩, by omega, by omega, ?_⟩
      · refine ⟨⟨by show 1 ≤ a; omega, by show a ≤ 4; omega, by show 1 ≤ b; omega, by show b ≤ 4; omega, by simp [cnew], by simp [cnew], fun T hT => ?_, fun T hT d hd => ?_⟩, ?_, ?_, fun i p hp => ?_, fun i p T hp hT => ?_⟩
        · rw [(List.mem_replicate.1 hT).2]; exact blankT_length
        · rw [(List.mem_replicate.1 hT).2] at hd
          rw [(List.mem_replicate.1 hd).2]
          unfold ByC By z0; simp
        · have := cV.grew hG (by simp)
          simpa [cnew, hm] using this
        · simp [cnew, hm]
        · have hi := List.getElem?_eq_some_iff.1 hp
          obtain ⟨hi, rfl⟩ := hi
          simp only [cnew, List.length_replicate, hm] at hi
          simp only [cnew, List.getElem_replicate]
          exact (h1.cell i).trans (h3 i hi)
        · have hp' := List.mem_of_getElem? hp
          have hT' := List.mem_of_getElem? hT
          rw [(List.mem_replicate.1 hp').2, (List.mem_replicate.1 hT').2]
          exact rV.grew hG (by simp; omega)
      · exact (S1.out.1.trans sV).grew hG (by simp; omega)
end Go.Proofs.Ytedckelfdkfkoaa
