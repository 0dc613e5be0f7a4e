/- What comes in: a row of two colours and a part. -/
import Derived.Test.YtnladfpckejogaaQ
import Derived.Test.YtnladfpckejogaaPm
namespace Go.Proofs.Ytnladfpckejogaa
open Go.RowKit

theorem col_list {H : Type} {enc : TypeId × Value → H} {W : World} {n : Nat} {v0 v1 v2 v3 : Value} {x : DataW H × List MemPlace}
    (h : DataW.trod enc Try.prog W 0 (fun _ => true) true n 27 [v0, v1, v2, v3] = some x) : ∃ c : Col, v0 = .int .u8 c.1 ∧ v1 = .int .u8 c.2.1 ∧ v2 = .int .u8 c.2.2.1 ∧ v3 = .int .u8 c.2.2.2 ∧ ByC c := by
  obtain ⟨y0, y1, y2, y3, m, _, _, g0, g1, g2, g3⟩ := Joins.trod_struct4 Try.underlying27 h
  have k5 : Try.prog.cellsOf 5 = 1 := by kernel_rfl
  simp only [k5, List.drop_zero, List.drop_succ_cons, List.take_succ_cons, List.take_zero] at g0 g1 g2 g3
  obtain ⟨a0, e0, _, w0⟩ := DataW.trod_int Try.underlying5 g0
  obtain ⟨a1, e1, _, w1⟩ := DataW.trod_int Try.underlying5 g1
  obtain ⟨a2, e2, _, w2⟩ := DataW.trod_int Try.underlying5 g2
  obtain ⟨a3, e3, _, w3⟩ := DataW.trod_int Try.underlying5 g3
  cases e0; cases e1; cases e2; cases e3
  exact ⟨(a0, a1, a2, a3), rfl, rfl, rfl, rfl, by_wf w0, by_wf w1, by_wf w2, by_wf w3⟩

theorem tri_cells {H : Type} {enc : TypeId × Value → H} {W : World} {n : Nat} {a : Addr} {cs : List Value} {x : DataW H × List MemPlace}
    (hc : W.cells? 0 a 9 = some cs) (h : DataW.trod enc Try.prog W 0 (fun _ => true) true n 53 cs = some x) : ∃ c : Tri, TriAt W a c ∧ ByC c.1 ∧ ByC c.2.1 ∧ By c.2.2 := by
  obtain ⟨_, hlen, hcell⟩ := World.cells?_some hc
  obtain ⟨y0, y1, y2, m, _, _, g0, g1, g2⟩ := _root_.Go.Deep.trod_struct3 Try.underlying53 h
  match cs, hlen with
  | [v0, v1, v2, v3, v4, v5, v6, v7, v8], _ =>
    have k5 : Try.prog.cellsOf 5 = 1 := by kernel_rfl
    have k27 : Try.prog.cellsOf 27 = 4 := by kernel_rfl
    simp only [k5, k27, List.drop_zero, List.drop_succ_cons, List.take_succ_cons, List.take_zero] at g0 g1 g2
    obtain ⟨c, rfl, rfl, rfl, rfl, hc1⟩ := col_list g0
    obtain ⟨d, rfl, rfl, rfl, rfl, hd1⟩ := col_list g1
    obtain ⟨q, e2, _, w2⟩ := DataW.trod_int Try.underlying5 g2
    cases e2
    exact ⟨(c, d, q), ⟨⟨hcell 0 (by omega), hcell 1 (by omega), hcell 2 (by omega), hcell 3 (by omega)⟩, ⟨hcell 4 (by omega), hcell 5 (by omega), hcell 6 (by omega), hcell 7 (by omega)⟩, hcell 8 (by omega)⟩, hc1, hd1, by_wf w2⟩

theorem open_threes {H : Type} {enc : TypeId × Value → H} {W : World} {v : Value} {d : DataW H} {p : List MemPlace} {ad : Option Addr} {len cap : Nat} (hv : v = .slice ad len cap)
    (h : DataW.Trod enc Try.prog W 0 (fun _ => true) true 51 v d p) : ∃ l : List Tri, l.length = len ∧ len ≤ cap ∧ TriRow W ad l := by
  subst hv
  obtain ⟨fuel, hf⟩ := h
  rcases Deep.open_slice Try.underlying51 hf with ⟨e, _⟩ | ⟨a, len', cap', m, n, D, Pl, e, _, hl, hm, hmm, _, hx⟩
  · cases e
    exact ⟨[], rfl, Nat.le_refl _, by simp [maxLen], fun i c hi => by simp at hi, fun c hc => by simp at hc⟩
  · cases e
    have hlm : len ≤ m := by rw [hmm]; split <;> omega
    have k53 : Try.prog.cellsOf 53 = 9 := by kernel_rfl
    have each : ∀ i, i < len → ∃ c : Tri, TriAt W (a.add (i * 9)) c ∧ ByC c.1 ∧ ByC c.2.1 ∧ By c.2.2 := by
      intro i hi
      obtain ⟨cs', h1, h2⟩ := hx i (by omega)
      rw [k53] at h1
      exact tri_cells h1 h2
    refine ⟨(List.range len).map fun i => if h : i < len then Classical.choose (each i h) else ((0, 0, 0, 0), (0, 0, 0, 0), 0), by simp, hl, by simp; omega, fun i c hi => ?_, fun c hc => ?_⟩
    · rw [List.getElem?_map] at hi
      by_cases hlt : i < len
      · rw [List.getElem?_range hlt] at hi
        simp only [Option.map_some, hlt, dite_true, Option.some.injEq] at hi
        exact ⟨a, rfl, hi ▸ (Classical.choose_spec (each i hlt)).1⟩
      · rw [List.getElem?_eq_none (by simp; omega)] at hi; cases hi
    · obtain ⟨i, hi, rfl⟩ := List.mem_map.1 hc
      have hlt := List.mem_range.1 hi
      simp only [hlt, dite_true]
      exact (Classical.choose_spec (each i hlt)).2
end Go.Proofs.Ytnladfpckejogaa
