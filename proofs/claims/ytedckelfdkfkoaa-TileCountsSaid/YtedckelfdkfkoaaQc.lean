/- What comes in: a row of colours. -/
import Derived.Test.YtedckelfdkfkoaaQ
namespace Go.Proofs.Ytedckelfdkfkoaa
open Go.RowKit
set_option maxRecDepth 100000

theorem open_cols {H : Type} {enc : TypeId × Value → H} {W : World} {v : Value} {d : DataW H} {p : List MemPlace} {ad : Option Addr} {len cap : Nat} (hv : v = .slice ad len cap)
    (h : DataW.Trod enc Try.prog W 0 (fun _ => true) true 26 v d p) : ∃ l : List Col, l.length = len ∧ len ≤ cap ∧ ColRow W ad l ∧ (ad = none → cap = 0) := by
  subst hv
  obtain ⟨fuel, hf⟩ := h
  rcases Deep.open_slice Try.underlying26 hf with ⟨e, _⟩ | ⟨a, len', cap', m, n, D, Pl, e, _, hl, hm, hmm, _, hx⟩
  · cases e
    exact ⟨[], rfl, Nat.le_refl _, ⟨by simp [maxLen], fun i c hi => by simp at hi, fun c hc => by simp at hc⟩, fun _ => rfl⟩
  · cases e
    have hlm : len ≤ m := by rw [hmm]; split <;> omega
    have k23 : Try.prog.cellsOf 23 = 4 := by kernel_rfl
    have each : ∀ i, i < len → ∃ c : Col, ColAt W (a.add (i * 4)) c ∧ ByC c := by
      intro i hi
      obtain ⟨cs', h1, h2⟩ := hx i (by omega)
      rw [k23] at h1
      obtain ⟨_, hlen, hcell⟩ := World.cells?_some h1
      obtain ⟨c, rfl, bc⟩ := col_trod hlen h2
      exact ⟨c, ⟨hcell 0 (by omega), hcell 1 (by omega), hcell 2 (by omega), hcell 3 (by omega)⟩, bc⟩
    refine ⟨(List.range len).map fun i => if h : i < len then Classical.choose (each i h) else (0, 0, 0, 0), by simp, hl, ⟨by simp; omega, fun i c hi => ?_, fun c hc => ?_⟩, fun e => by cases e⟩
    · rw [List.getElem?_map] at hi
      by_cases hlt : i < len
      · rw [List.getElem?_range hlt] at hi
        simp only [Option.map_some, hlt, dite_true, Option.some.injEq] at hi
        exact ⟨a, rfl, hi ▸ (Classical.choose_spec (each i hlt)).1⟩
      · rw [List.getElem?_eq_none (by simp; omega)] at hi; cases hi
    · obtain ⟨i, hi, rfl⟩ := List.mem_map.1 hc
      have hlt := List.mem_range.1 hi
      simp only [hlt, dite_true]
      exact (Classical.choose_spec (each i hlt)).2
end Go.Proofs.Ytedckelfdkfkoaa
