/- What comes in: a canvas, a row of dots. -/
import Derived.Test.YtedckelfdkfkoaaQ
import Derived.Test.YtedckelfdkfkoaaTa
import Derived.Deep.Strs
namespace Go.Proofs.Ytedckelfdkfkoaa
open Go.RowKit
set_option maxRecDepth 100000

theorem tile_trod {H : Type} {enc : TypeId × Value → H} {W : World} {n : Nat} {cs : List Value} {x : DataW H × List MemPlace} (hl : cs.length = 256)
    (h : DataW.trod enc Try.prog W 0 (fun _ => true) true n 25 cs = some x) : ∃ T : List Col, T.length = 64 ∧ cs = colsV T ∧ ∀ c ∈ T, ByC c := by
  have k23 : Try.prog.cellsOf 23 = 4 := by kernel_rfl
  obtain ⟨xs, m, _, _, hlen, hx, each⟩ := DataW.trod_array Try.underlying25 h
  rw [k23] at each
  exact cols_cut 64 cs hl fun i hi => by
    have g := each i hi
    rw [List.getElem?_eq_getElem (by omega)] at g
    refine col_trod ?_ g
    show ((cs.drop (i * 4)).take 4).length = 4
    rw [List.length_take, List.length_drop]
    omega
theorem open_tiles {H : Type} {enc : TypeId × Value → H} {W : World} {v : Value} {x : DataW H × List MemPlace} {n : Nat}
    (h : DataW.trod enc Try.prog W 0 (fun _ => true) true n 61 [v] = some x) : ∃ (ad : Option Addr) (cap : Nat) (l : List (List Col)), v = .slice ad l.length cap ∧ TilRow W ad l ∧ (ad = none → cap = 0) ∧ l.length ≤ cap ∧ cap ≤ maxLen := by
  rcases Deep.open_slice Try.underlying61 h with ⟨e, _⟩ | ⟨a, len, cap, m, n, D, Pl, e, _, hl, hm, hmm, _, hx⟩
  · cases e
    exact ⟨none, 0, [], rfl, ⟨by simp [maxLen], fun i c hi => by simp at hi, fun c hc => by simp at hc, fun c hc => by simp at hc⟩, fun _ => rfl, Nat.le_refl _, by unfold maxLen; omega⟩
  · cases e
    have hlm : len ≤ m := by rw [hmm]; split <;> omega
    have k25 : Try.prog.cellsOf 25 = 256 := by kernel_rfl
    have each : ∀ i, i < len → ∃ T : List Col, TilAt W (a.add (i * 256)) T ∧ T.length = 64 ∧ ∀ c ∈ T, ByC c := by
      intro i hi
      obtain ⟨cs', h1, h2⟩ := hx i (by omega)
      rw [k25] at h1
      obtain ⟨_, hlen, hcell⟩ := World.cells?_some h1
      obtain ⟨T, lT, rfl, bT⟩ := tile_trod hlen h2
      refine ⟨T, fun j v hj => ?_, lT, bT⟩
      have hj1 := (List.getElem?_eq_some_iff.1 hj).1
      exact (hcell j (by omega)).trans hj
    refine ⟨some a, cap, (List.range len).map fun i => if h : i < len then Classical.choose (each i h) else [], by simp, ⟨by simp; omega, fun i c hi => ?_, fun c hc => ?_, fun c hc => ?_⟩, fun e => (by cases e), by simpa using hl, hm⟩
    · rw [List.getElem?_map] at hi
      by_cases hlt : i < len
      · rw [List.getElem?_range hlt] at hi
        simp only [Option.map_some, hlt, dite_true, Option.some.injEq] at hi
        exact ⟨a, rfl, hi ▸ (Classical.choose_spec (each i hlt)).1⟩
      · rw [List.getElem?_eq_none (by simp; omega)] at hi; cases hi
    · obtain ⟨i, hi, rfl⟩ := List.mem_map.1 hc
      have hlt := List.mem_range.1 hi
      simp only [hlt, dite_true]
      exact (Classical.choose_spec (each i hlt)).2.1
    · obtain ⟨i, hi, rfl⟩ := List.mem_map.1 hc
      have hlt := List.mem_range.1 hi
      simp only [hlt, dite_true]
      exact (Classical.choose_spec (each i hlt)).2.2
/-- what a canvas from outside is -/
structure CvArg (W : World) (v : Value) (x y : Int) (ad : Option Addr) (cap : Nat) (l : List (List Col)) : Prop where
  val : v = .agg #[.int .i64 x, .int .i64 y, .slice ad l.length cap]
  row : TilRow W ad l
  nil : ad = none → cap = 0
  le : l.length ≤ cap
  max : cap ≤ maxLen
  wx : -9223372036854775808 ≤ x ∧ x ≤ 9223372036854775807
  wy : -9223372036854775808 ≤ y ∧ y ≤ 9223372036854775807
theorem open_canvas {H : Type} {enc : TypeId × Value → H} {W : World} {b0 : Nat} {v : Value} {d : DataW H} {p : List MemPlace}
    (hv : Value.okWide Try.prog W .any b0 63 v) (h : DataW.Trod enc Try.prog W 0 (fun _ => true) true 63 v d p) : ∃ x y ad cap l, CvArg W v x y ad cap l := by
  obtain ⟨c0, c1, c2, y0, y1, y2, m, rfl, _, _, g0, g1, g2⟩ := Joins.open_agg3 Try.underlying63 (by kernel_rfl) (by kernel_rfl) hv h
  obtain ⟨a0, e0, _, w0⟩ := DataW.trod_int Try.underlying3 g0
  obtain ⟨a1, e1, _, w1⟩ := DataW.trod_int Try.underlying3 g1
  cases e0; cases e1
  obtain ⟨ad, cap, l, rfl, h1, h2, h3, h4⟩ := open_tiles g2
  exact ⟨a0, a1, ad, cap, l, rfl, h1, h2, h3, h4, i64_wf w0, i64_wf w1⟩

theorem dot_trod {H : Type} {enc : TypeId × Value → H} {W : World} {n : Nat} {a : Addr} {cs : List Value} {x : DataW H × List MemPlace}
    (hc : W.cells? 0 a 6 = some cs) (h : DataW.trod enc Try.prog W 0 (fun _ => true) true n 81 cs = some x) : ∃ d : Dot, DotAt W a d ∧ WdD d := by
  obtain ⟨_, hlen, hcell⟩ := World.cells?_some hc
  obtain ⟨y0, y1, y2, m, _, _, g0, g1, g2⟩ := Go.Deep.trod_struct3 Try.underlying81 h
  match cs, hlen with
  | [v0, v1, v2, v3, v4, v5], _ =>
    have k3 : Try.prog.cellsOf 3 = 1 := by kernel_rfl
    have k23 : Try.prog.cellsOf 23 = 4 := by kernel_rfl
    simp only [k3, k23, List.drop_zero, List.drop_succ_cons, List.take_succ_cons, List.take_zero] at g0 g1 g2
    obtain ⟨a0, e0, _, w0⟩ := DataW.trod_int Try.underlying3 g0
    obtain ⟨a1, e1, _, w1⟩ := DataW.trod_int Try.underlying3 g1
    obtain ⟨c, ec, bc⟩ := col_trod rfl g2
    cases e0; cases e1
    simp only [colsV, List.flatMap_cons, List.flatMap_nil, List.append_nil, List.cons.injEq, and_true] at ec
    obtain ⟨rfl, rfl, rfl, rfl⟩ := ec
    exact ⟨(a0, a1, c), ⟨hcell 0 (by omega), hcell 1 (by omega), hcell 2 (by omega), hcell 3 (by omega), hcell 4 (by omega), hcell 5 (by omega)⟩, ⟨i64_wf w0, i64_wf w1⟩, bc⟩

theorem open_dots {H : Type} {enc : TypeId × Value → H} {W : World} {v : Value} {d : DataW H} {p : List MemPlace} {ad : Option Addr} {len cap : Nat} (hv : v = .slice ad len cap)
    (h : DataW.Trod enc Try.prog W 0 (fun _ => true) true 64 v d p) : ∃ l : List Dot, l.length = len ∧ l.length ≤ cap ∧ DotRow W ad l ∧ (ad = none → cap = 0) ∧ cap ≤ maxLen := by
  subst hv
  obtain ⟨fuel, hf⟩ := h
  rcases Deep.open_slice Try.underlying64 hf with ⟨e, _⟩ | ⟨a, len', cap', m, n, D, Pl, e, _, hl, hm, hmm, _, hx⟩
  · cases e
    exact ⟨[], rfl, Nat.le_refl _, ⟨by simp [maxLen], fun i c hi => by simp at hi, fun c hc => by simp at hc⟩, fun _ => rfl, by unfold maxLen; omega⟩
  · cases e
    have hlm : len ≤ m := by rw [hmm]; split <;> omega
    have k81 : Try.prog.cellsOf 81 = 6 := by kernel_rfl
    have each : ∀ i, i < len → ∃ c : Dot, DotAt W (a.add (i * 6)) c ∧ WdD c := by
      intro i hi
      obtain ⟨cs', h1, h2⟩ := hx i (by omega)
      rw [k81] at h1
      exact dot_trod h1 h2
    refine ⟨(List.range len).map fun i => if h : i < len then Classical.choose (each i h) else (0, 0, 0, 0, 0, 0), by simp, by simpa using hl, ⟨by simp; omega, fun i c hi => ?_, fun c hc => ?_⟩, fun e => (by cases e), hm⟩
    · rw [List.getElem?_map] at hi
      by_cases hlt : i < len
      · rw [List.getElem?_range hlt] at hi
        simp only [Option.map_some, hlt, dite_true, Option.some.injEq] at hi
        exact ⟨a, rfl, hi ▸ (Classical.choose_spec (each i hlt)).1⟩
      · rw [List.getElem?_eq_none (by simp; omega)] at hi; cases hi
    · obtain ⟨i, hi, rfl⟩ := List.mem_map.1 hc
      have hlt := List.mem_range.1 hi
      simp only [hlt, dite_true]
      exact (Classical.choose_spec (each i hlt)).2
end Go.Proofs.Ytedckelfdkfkoaa
