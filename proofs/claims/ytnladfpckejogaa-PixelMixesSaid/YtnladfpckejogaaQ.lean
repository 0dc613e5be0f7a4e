/- What comes in: a colour, a row of colours. -/
import Derived.Test.YtnladfpckejogaaN
import Derived.Lib.SmallJoins
import Derived.ProofKit
import Derived.Deep.Slices
namespace Go.Proofs.Ytnladfpckejogaa
open Go.RowKit

theorem by_wf {n : Int} (h : (Lit.int .u8 n).wf = true) : By n := by
  simp [Lit.wf, IntKind.min, IntKind.max, IntKind.bits, IntKind.signed] at h
  unfold By
  omega

theorem u32_wf {n : Int} (h : (Lit.int .u32 n).wf = true) : 0 ≤ n ∧ n < 4294967296 := by
  simp [Lit.wf, IntKind.min, IntKind.max, IntKind.bits, IntKind.signed] at h
  omega

theorem i64_wf {n : Int} (h : (Lit.int .i64 n).wf = true) : -9223372036854775808 ≤ n ∧ n ≤ 9223372036854775807 := by
  simp [Lit.wf, IntKind.min, IntKind.max, IntKind.bits, IntKind.signed] at h
  omega

theorem open_col {H : Type} {enc : TypeId × Value → H} {W : World} {b0 : Nat} {v : Value} {d : DataW H} {p : List MemPlace}
    (hv : Value.okWide Try.prog W .any b0 27 v) (h : DataW.Trod enc Try.prog W 0 (fun _ => true) true 27 v d p) : ∃ r g b a : Int, v = .agg #[.int .u8 r, .int .u8 g, .int .u8 b, .int .u8 a] ∧ By r ∧ By g ∧ By b ∧ By a := by
  obtain ⟨c0, c1, c2, c3, y0, y1, y2, y3, m, rfl, _, _, g0, g1, g2, g3⟩ := Joins.open_agg4 Try.underlying27 (by kernel_rfl) (by kernel_rfl) hv h
  obtain ⟨a0, e0, _, w0⟩ := DataW.trod_int Try.underlying5 g0
  obtain ⟨a1, e1, _, w1⟩ := DataW.trod_int Try.underlying5 g1
  obtain ⟨a2, e2, _, w2⟩ := DataW.trod_int Try.underlying5 g2
  obtain ⟨a3, e3, _, w3⟩ := DataW.trod_int Try.underlying5 g3
  cases e0; cases e1; cases e2; cases e3
  exact ⟨a0, a1, a2, a3, rfl, by_wf w0, by_wf w1, by_wf w2, by_wf w3⟩

theorem col_cells {H : Type} {enc : TypeId × Value → H} {W : World} {n : Nat} {a : Addr} {cs : List Value} {x : DataW H × List MemPlace}
    (hc : W.cells? 0 a 4 = some cs) (h : DataW.trod enc Try.prog W 0 (fun _ => true) true n 27 cs = some x) : ∃ c : Col, ColAt W a c ∧ ByC c := by
  obtain ⟨_, hlen, hcell⟩ := World.cells?_some hc
  obtain ⟨y0, y1, y2, y3, m, _, _, g0, g1, g2, g3⟩ := Joins.trod_struct4 Try.underlying27 h
  match cs, hlen with
  | [v0, v1, v2, v3], _ =>
    have k5 : Try.prog.cellsOf 5 = 1 := by kernel_rfl
    simp only [k5, List.drop_zero, List.drop_succ_cons, List.take_succ_cons, List.take_zero] at g0 g1 g2 g3
    obtain ⟨a0, e0, _, w0⟩ := DataW.trod_int Try.underlying5 g0
    obtain ⟨a1, e1, _, w1⟩ := DataW.trod_int Try.underlying5 g1
    obtain ⟨a2, e2, _, w2⟩ := DataW.trod_int Try.underlying5 g2
    obtain ⟨a3, e3, _, w3⟩ := DataW.trod_int Try.underlying5 g3
    cases e0; cases e1; cases e2; cases e3
    exact ⟨(a0, a1, a2, a3), ⟨hcell 0 (by omega), hcell 1 (by omega), hcell 2 (by omega), hcell 3 (by omega)⟩, by_wf w0, by_wf w1, by_wf w2, by_wf w3⟩

theorem open_cols {H : Type} {enc : TypeId × Value → H} {W : World} {v : Value} {d : DataW H} {p : List MemPlace} {ad : Option Addr} {len cap : Nat} (hv : v = .slice ad len cap)
    (h : DataW.Trod enc Try.prog W 0 (fun _ => true) true 22 v d p) : ∃ l : List Col, l.length = len ∧ len ≤ cap ∧ ColRow W ad l ∧ (ad = none → cap = 0) := by
  subst hv
  obtain ⟨fuel, hf⟩ := h
  rcases Deep.open_slice Try.underlying22 hf with ⟨e, _⟩ | ⟨a, len', cap', m, n, D, Pl, e, _, hl, hm, hmm, _, hx⟩
  · cases e
    exact ⟨[], rfl, Nat.le_refl _, ⟨by simp [maxLen], fun i c hi => by simp at hi, fun c hc => by simp at hc⟩, fun _ => rfl⟩
  · cases e
    have hlm : len ≤ m := by rw [hmm]; split <;> omega
    have k27 : Try.prog.cellsOf 27 = 4 := by kernel_rfl
    have each : ∀ i, i < len → ∃ c : Col, ColAt W (a.add (i * 4)) c ∧ ByC c := by
      intro i hi
      obtain ⟨cs', h1, h2⟩ := hx i (by omega)
      rw [k27] at h1
      exact col_cells h1 h2
    refine ⟨(List.range len).map fun i => if h : i < len then Classical.choose (each i h) else (0, 0, 0, 0), by simp, hl, ⟨by simp; omega, fun i c hi => ?_, fun c hc => ?_⟩, fun e => by cases e⟩
    · rw [List.getElem?_map] at hi
      by_cases hlt : i < len
      · rw [List.getElem?_range hlt] at hi
        simp only [Option.map_some, hlt, dite_true, Option.some.injEq] at hi
        exact ⟨a, rfl, hi ▸ (Classical.choose_spec (each i hlt)).1⟩
      · rw [List.getElem?_eq_none (by simp; omega)] at hi; cases hi
    · obtain ⟨i, hi, rfl⟩ := List.mem_map.1 hc
      have hlt := List.mem_range.1 hi
      simp only [hlt, dite_true]
      exact (Classical.choose_spec (each i hlt)).2
end Go.Proofs.Ytnladfpckejogaa
