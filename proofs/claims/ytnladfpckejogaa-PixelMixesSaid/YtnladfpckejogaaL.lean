/- Walks: colours, one over the other; the nearest one. -/
import Derived.Test.YtnladfpckejogaaZ
namespace Go.Proofs.Ytnladfpckejogaa
open Go.RowKit Go.Shelf
attribute [local go_sem] Oper.semAt_some

/-- a colour over another -/
def overC (u o : Col) : Col := (shareZ u.1 o.1 o.2.2.2, shareZ u.2.1 o.2.1 o.2.2.2, shareZ u.2.2.1 o.2.2.1 o.2.2.2, (o.2.2.2 + shareZ u.2.2.2 0 o.2.2.2) % 256)
theorem overC_by {u o : Col} (hu : ByC u) (ho : ByC o) : ByC (overC u o) := by
  obtain ⟨u0, u1, u2, u3⟩ := hu
  obtain ⟨o0, o1, o2, o3⟩ := ho
  exact ⟨⟨shareZ_lo u0.1 o0.1 o3.1 o3.2, shareZ_hi u0.2 o0.2 o3.1 o3.2⟩, ⟨shareZ_lo u1.1 o1.1 o3.1 o3.2, shareZ_hi u1.2 o1.2 o3.1 o3.2⟩,
    ⟨shareZ_lo u2.1 o2.1 o3.1 o3.2, shareZ_hi u2.2 o2.2 o3.1 o3.2⟩, by unfold By overC; simp only []; omega⟩

set_option maxRecDepth 100000 in
set_option maxHeartbeats 1000000 in
theorem layers_any (u : Col) (a : Option Addr) (x : Nat) (l : List Col) (w : World) (hu : ByC u) (h : ColRow w a l) :
    Calls Try.prog 23 #[colV u, .slice a l.length x] w fun e w' => e = .returned (colV (l.foldl overC u)) ∧ Below w.heap.size w w' := by
  have n1 := h.len
  unfold maxLen at n1
  generalize hm1 : l.length = m1 at *
  obtain ⟨R, hR⟩ : ∃ R, l.foldl overC u = R := ⟨_, rfl⟩
  rw [hR]
  have A := Lib.hid (And.intro hm1 (And.intro h hR))
  clear hm1 h hR
  go_enter Try.func23, Try.ntmps23
  go_wp2
  generalize hX : World.alloc _ _ = X
  have x0 : Has X w.heap.size (.cells #[.int .u8 u.1, .int .u8 u.2.1, .int .u8 u.2.2.1, .int .u8 u.2.2.2] 27 (0, 0)) := by rw [← hX]; exact (Has.new' (by simp)).alloc _
  have x1 : Has X (w.heap.size + 1) (.cells #[.int .u8 0, .int .u8 0, .int .u8 0, .int .u8 0] 27 (0, 0)) := by rw [← hX]; exact Has.new' (by simp)
  have bX : Below w.heap.size w X := by rw [← hX]; exact ((Below.refl _ _).alloc (by simp) _).alloc (by simp) _
  clear hX
  go_loopg [9] m1 (fun n i wr => ∃ (k : Nat) (c : Col), k ≤ m1 ∧ n = m1 - k ∧ i = .int .i64 k ∧ ByC c ∧ (l.drop k).foldl overC c = R ∧ Has wr w.heap.size (.cells #[.int .u8 c.1, .int .u8 c.2.1, .int .u8 c.2.2.1, .int .u8 c.2.2.2] 27 (0, 0)) ∧
    Has wr (w.heap.size + 1) (.cells #[.int .u8 0, .int .u8 0, .int .u8 0, .int .u8 0] 27 (0, 0)) ∧ Below w.heap.size w wr)
  case atStart => exact ⟨0, u, by omega, by omega, rfl, hu, A.out.2.2, x0, x1, bX⟩
  case round =>
    clear x0 x1 bX hu
    obtain ⟨k, ⟨c0, c1, c2, c3⟩, hk, hn, rfl, hc, hf, j0, j1, hb⟩ := hrel
    simp only [] at j0
    by_cases hlt : k < m1
    · obtain ⟨hm1, h, hR⟩ := A.out
      obtain ⟨d, hd⟩ : ∃ c, l[k]? = some c := ⟨_, List.getElem?_eq_getElem (by omega)⟩
      obtain ⟨p, rfl, q⟩ := (h.below hb).at_ k d hd
      have hdb : ByC d := h.by_ d (List.mem_of_getElem? hd)
      rw [List.drop_eq_getElem_cons (by omega), List.foldl_cons, show l[k]'(by omega) = d by rw [List.getElem?_eq_getElem (by omega)] at hd; exact Option.some.inj hd] at hf
      obtain ⟨d0, d1, d2, d3⟩ := d
      unfold ColAt at q
      simp only [] at q
      have e0 := (j0.alloc (.cells #[.int .u8 d0, .int .u8 d1, .int .u8 d2, .int .u8 d3] 27 (0, 0))).four
      have B := Lib.hid (And.intro hn (And.intro hf (And.intro hc (And.intro hdb (And.intro j0 (And.intro j1 hb))))))
      clear hn hf hc hdb j0 j1 hb hd hm1 h hR
      go_wp2_with (fail)
      obtain ⟨hn, hf, ⟨g0, g1, g2, g3⟩, ⟨g4, g5, g6, g7⟩, j0, j1, hb⟩ := B.out
      refine (over_any _ _ _ _ _ _ _ _ _ g0 g1 g2 g3 g4 g5 g6 g7).mono ?_
      rintro e w2 ⟨rfl, hb2⟩
      have y0 := (j0.alloc (.cells #[.int .u8 d0, .int .u8 d1, .int .u8 d2, .int .u8 d3] 27 (0, 0))).below hb2 (j0.alloc _).lt
      have y1 := (j1.alloc (.cells #[.int .u8 d0, .int .u8 d1, .int .u8 d2, .int .u8 d3] 27 (0, 0))).below hb2 (j1.alloc _).lt
      have z0 := y0.put4 (.int .u8 (shareZ c0 d0 d3)) (.int .u8 (shareZ c1 d1 d3)) (.int .u8 (shareZ c2 d2 d3)) (.int .u8 ((d3 + shareZ c3 0 d3) % 256))
      have z1 := y1.put4_other (r := w.heap.size) (.int .u8 (shareZ c0 d0 d3)) (.int .u8 (shareZ c1 d1 d3)) (.int .u8 (shareZ c2 d2 d3)) (.int .u8 ((d3 + shareZ c3 0 d3) % 256)) (by omega)
      have bb := (hb.alloc hb.size (.cells #[.int .u8 d0, .int .u8 d1, .int .u8 d2, .int .u8 d3] 27 (0, 0))).trans (hb2.mono (by simp; have := hb.size; omega))
      have bq := below_put4 bb (Nat.le_refl _) (.int .u8 (shareZ c0 d0 d3)) (.int .u8 (shareZ c1 d1 d3)) (.int .u8 (shareZ c2 d2 d3)) (.int .u8 ((d3 + shareZ c3 0 d3) % 256))
      have d4 := y0.four
      have f4 := y0.free4
      have hcc := overC_by (u := (c0, c1, c2, c3)) (o := (d0, d1, d2, d3)) ⟨g0, g1, g2, g3⟩ ⟨g4, g5, g6, g7⟩
      have T := Lib.hid (And.intro z0 (And.intro z1 (And.intro bq hcc)))
      clear hn hf g0 g1 g2 g3 g4 g5 g6 g7 j0 j1 hb y0 y1 z0 z1 bb bq hb2 e0 q hcc
      go_wp2
      go_roundg (m1 - (k + 1))
      case measure => have := B.out.1; omega
      case rel => exact ⟨k + 1, overC (c0, c1, c2, c3) (d0, d1, d2, d3), hlt, rfl, rfl, T.out.2.2.2, B.out.2.1, T.out.1, T.out.2.1, T.out.2.2.1⟩
    · have hk : k = m1 := by omega
      subst hk
      rw [List.drop_eq_nil_of_le (by rw [A.out.1]; exact Nat.le_refl _)] at hf
      simp only [List.foldl_nil] at hf
      have e0 := j0.four
      have e1 := j1.four
      have f1 := j1.free4
      have h4 := j1.put4 (.int .u8 c0) (.int .u8 c1) (.int .u8 c2) (.int .u8 c3)
      have b4 := below_put4 hb (r := w.heap.size + 1) (by omega) (.int .u8 c0) (.int .u8 c1) (.int .u8 c2) (.int .u8 c3)
      have T := Lib.hid (And.intro h4 (And.intro b4 hf))
      clear hf j0 j1 hb h4 b4
      go_wp2
      obtain ⟨h4, b4, hf⟩ := T.out
      have e4 := h4.four
      unfold w4 at e4 b4
      exact bodyPost_ret (v := .agg #[.int .u8 c0, .int .u8 c1, .int .u8 c2, .int .u8 c3]) (by simp [results, Try.f23, go_sem, e4]) rfl ⟨by rw [← hf], b4⟩
end Go.Proofs.Ytnladfpckejogaa
