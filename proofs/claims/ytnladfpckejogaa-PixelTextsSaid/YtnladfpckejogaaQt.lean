/- What comes in: a row of words, a row of texts. -/
import Derived.Test.YtnladfpckejogaaQ
import Derived.Test.YtnladfpckejogaaPt
import Derived.SliceStrings
import Derived.ChangeSlices
namespace Go.Proofs.Ytnladfpckejogaa
open Go.RowKit

theorem open_nums {H : Type} {enc : TypeId × Value → H} {W : World} {v : Value} {d : DataW H} {p : List MemPlace} {ad : Option Addr} {len cap : Nat} (hv : v = .slice ad len cap)
    (h : DataW.Trod enc Try.prog W 0 (fun _ => true) true 23 v d p) : ∃ l : List Int, l.length = len ∧ len ≤ cap ∧ OneRow (Value.int .u32) W ad l ∧ ∀ z ∈ l, 0 ≤ z ∧ z < 4294967296 := by
  subst hv
  obtain ⟨fuel, hf⟩ := h
  rcases _root_.Go.ChangeShapes.open_ints Try.underlying23 Try.underlying28 (by kernel_rfl) hf with ⟨e, _⟩ | ⟨a, len', cap', zs, e, _, hl, hm, hz, _, hcell, hwz⟩
  · cases e
    exact ⟨[], rfl, Nat.le_refl _, ⟨by simp [maxLen], fun i c hi => by simp at hi⟩, fun z hz => by simp at hz⟩
  · cases e
    have hz' : zs.length = cap := by simpa using hz
    refine ⟨zs.take len, by rw [List.length_take]; omega, hl, ⟨by rw [List.length_take]; omega, fun i c hi => ?_⟩, fun z hz => u32_wf (hwz z (List.mem_of_mem_take hz))⟩
    rw [List.getElem?_take] at hi
    split at hi
    · refine ⟨a, rfl, ?_⟩
      have := hcell i (by omega)
      rw [List.getD_eq_getElem?_getD, hi] at this
      exact this
    · cases hi

theorem open_strs {H : Type} {enc : TypeId × Value → H} {W : World} {v : Value} {d : DataW H} {p : List MemPlace} {ad : Option Addr} {len cap : Nat} (hv : v = .slice ad len cap)
    (h : DataW.Trod enc Try.prog W 0 (fun _ => true) true 24 v d p) : ∃ l : List ByteArray, l.length = len ∧ len ≤ cap ∧ OneRow Value.string W ad l := by
  subst hv
  obtain ⟨fuel, hf⟩ := h
  rcases _root_.Go.ChangeShapes.open_strings Try.underlying24 Try.underlying9 (by kernel_rfl) hf with ⟨e, _⟩ | ⟨a, len', cap', ss, e, _, hl, hm, hz, _, hcell, _⟩
  · cases e
    exact ⟨[], rfl, Nat.le_refl _, ⟨by simp [maxLen], fun i c hi => by simp at hi⟩⟩
  · cases e
    have hz' : ss.length = cap := by simpa using hz
    refine ⟨ss.take len, by rw [List.length_take]; omega, hl, ⟨by rw [List.length_take]; omega, fun i c hi => ?_⟩⟩
    rw [List.getElem?_take] at hi
    split at hi
    · refine ⟨a, rfl, ?_⟩
      have := hcell i (by omega)
      rw [List.getD_eq_getElem?_getD, hi] at this
      exact this
    · cases hi
end Go.Proofs.Ytnladfpckejogaa
