/- What comes in: a colour, a tile, a row of points. -/
import Derived.Test.YtedckelfdkfkoaaA
import Derived.Lib.SmallJoins
import Derived.ProofKit
import Derived.Deep.Slices
namespace Go.Proofs.Ytedckelfdkfkoaa
open Go.RowKit
set_option maxRecDepth 100000

theorem by_wf {n : Int} (h : (Lit.int .u8 n).wf = true) : By n := by
  simp [Lit.wf, IntKind.min, IntKind.max, IntKind.bits, IntKind.signed] at h
  unfold By
  omega

theorem i64_wf {n : Int} (h : (Lit.int .i64 n).wf = true) : -9223372036854775808 ≤ n ∧ n ≤ 9223372036854775807 := by
  simp [Lit.wf, IntKind.min, IntKind.max, IntKind.bits, IntKind.signed] at h
  omega

theorem open_col {H : Type} {enc : TypeId × Value → H} {W : World} {b0 : Nat} {v : Value} {d : DataW H} {p : List MemPlace}
    (hv : Value.okWide Try.prog W .any b0 23 v) (h : DataW.Trod enc Try.prog W 0 (fun _ => true) true 23 v d p) : ∃ c : Col, v = colV c ∧ ByC c := by
  obtain ⟨c0, c1, c2, c3, y0, y1, y2, y3, m, rfl, _, _, g0, g1, g2, g3⟩ := Joins.open_agg4 Try.underlying23 (by kernel_rfl) (by kernel_rfl) hv h
  obtain ⟨a0, e0, _, w0⟩ := DataW.trod_int Try.underlying5 g0
  obtain ⟨a1, e1, _, w1⟩ := DataW.trod_int Try.underlying5 g1
  obtain ⟨a2, e2, _, w2⟩ := DataW.trod_int Try.underlying5 g2
  obtain ⟨a3, e3, _, w3⟩ := DataW.trod_int Try.underlying5 g3
  cases e0; cases e1; cases e2; cases e3
  exact ⟨(a0, a1, a2, a3), rfl, by_wf w0, by_wf w1, by_wf w2, by_wf w3⟩

theorem col_trod {H : Type} {enc : TypeId × Value → H} {W : World} {n : Nat} {cs : List Value} {x : DataW H × List MemPlace} (hlen : cs.length = 4)
    (h : DataW.trod enc Try.prog W 0 (fun _ => true) true n 23 cs = some x) : ∃ c : Col, cs = colsV [c] ∧ ByC c := by
  obtain ⟨y0, y1, y2, y3, m, _, _, g0, g1, g2, g3⟩ := Joins.trod_struct4 Try.underlying23 h
  match cs, hlen with
  | [v0, v1, v2, v3], _ =>
    have k5 : Try.prog.cellsOf 5 = 1 := by kernel_rfl
    simp only [k5, List.drop_zero, List.drop_succ_cons, List.take_succ_cons, List.take_zero] at g0 g1 g2 g3
    obtain ⟨a0, e0, _, w0⟩ := DataW.trod_int Try.underlying5 g0
    obtain ⟨a1, e1, _, w1⟩ := DataW.trod_int Try.underlying5 g1
    obtain ⟨a2, e2, _, w2⟩ := DataW.trod_int Try.underlying5 g2
    obtain ⟨a3, e3, _, w3⟩ := DataW.trod_int Try.underlying5 g3
    cases e0; cases e1; cases e2; cases e3
    exact ⟨(a0, a1, a2, a3), rfl, by_wf w0, by_wf w1, by_wf w2, by_wf w3⟩

theorem cols_cut : ∀ (n : Nat) (cs : List Value), cs.length = n * 4 → (∀ i, i < n → ∃ c : Col, (cs.drop (i * 4)).take 4 = colsV [c] ∧ ByC c) →
    ∃ T : List Col, T.length = n ∧ cs = colsV T ∧ ∀ c ∈ T, ByC c
  | 0, cs, h, _ => ⟨[], rfl, by simpa [colsV] using List.eq_nil_of_length_eq_zero (by simpa using h), fun c hc => by simp at hc⟩
  | n + 1, cs, h, f => by
    obtain ⟨c, hc, bc⟩ := f 0 (by omega)
    obtain ⟨T, hT, e, b⟩ := cols_cut n (cs.drop 4) (by rw [List.length_drop]; omega) fun i hi => by
      obtain ⟨d, hd, bd⟩ := f (i + 1) (by omega)
      refine ⟨d, ?_, bd⟩
      rw [List.drop_drop, show 4 + i * 4 = (i + 1) * 4 by omega]
      exact hd
    refine ⟨c :: T, by simp [hT], ?_, fun x hx => ?_⟩
    · have e0 : cs = cs.take 4 ++ cs.drop 4 := (List.take_append_drop 4 cs).symm
      rw [Nat.zero_mul, List.drop_zero] at hc
      rw [hc, e] at e0
      exact e0
    · rcases List.mem_cons.1 hx with rfl | hx
      · exact bc
      · exact b x hx

theorem open_tile {H : Type} {enc : TypeId × Value → H} {W : World} {b0 : Nat} {v : Value} {d : DataW H} {p : List MemPlace}
    (hv : Value.okWide Try.prog W .any b0 25 v) (h : DataW.Trod enc Try.prog W 0 (fun _ => true) true 25 v d p) : ∃ T : List Col, T.length = 64 ∧ v = .agg (tileA T) ∧ ∀ c ∈ T, ByC c := by
  have k25 : Try.prog.cellsOf 25 = 256 := by kernel_rfl
  have k23 : Try.prog.cellsOf 23 = 4 := by kernel_rfl
  simp only [Value.okWide, Try.underlying25] at hv
  obtain ⟨cs, rfl, hsz, _⟩ := hv
  rw [k25] at hsz
  obtain ⟨fuel, hf⟩ := h
  obtain ⟨xs, m, _, _, hlen, hx, each⟩ := DataW.trod_array Try.underlying25 hf
  rw [k23] at each
  have hl : cs.toList.length = 64 * 4 := by simpa using hsz
  obtain ⟨T, hT, e, b⟩ := cols_cut 64 cs.toList hl fun i hi => by
    have g := each i hi
    rw [List.getElem?_eq_getElem (by omega)] at g
    refine col_trod ?_ g
    show ((cs.toList.drop (i * 4)).take 4).length = 4
    rw [List.length_take, List.length_drop]
    omega
  refine ⟨T, hT, ?_, b⟩
  unfold tileA
  rw [← e]

theorem pt_cells {H : Type} {enc : TypeId × Value → H} {W : World} {n : Nat} {a : Addr} {cs : List Value} {x : DataW H × List MemPlace}
    (hc : W.cells? 0 a 2 = some cs) (h : DataW.trod enc Try.prog W 0 (fun _ => true) true n 43 cs = some x) : ∃ c : Int × Int, PtAt W a c ∧ WdP c := by
  obtain ⟨_, hlen, hcell⟩ := World.cells?_some hc
  obtain ⟨y0, y1, m, _, _, g0, g1⟩ := Go.ChangeShapes.trod_struct2 Try.underlying43 h
  match cs, hlen with
  | [v0, v1], _ =>
    have k3 : Try.prog.cellsOf 3 = 1 := by kernel_rfl
    simp only [k3, List.drop_zero, List.drop_succ_cons, List.take_succ_cons, List.take_zero] at g0 g1
    obtain ⟨a0, e0, _, w0⟩ := DataW.trod_int Try.underlying3 g0
    obtain ⟨a1, e1, _, w1⟩ := DataW.trod_int Try.underlying3 g1
    cases e0; cases e1
    exact ⟨(a0, a1), ⟨hcell 0 (by omega), hcell 1 (by omega)⟩, i64_wf w0, i64_wf w1⟩

theorem open_pts {H : Type} {enc : TypeId × Value → H} {W : World} {v : Value} {d : DataW H} {p : List MemPlace} {ad : Option Addr} {len cap : Nat} (hv : v = .slice ad len cap)
    (h : DataW.Trod enc Try.prog W 0 (fun _ => true) true 45 v d p) : ∃ l : List (Int × Int), l.length = len ∧ len ≤ cap ∧ PtRow W ad l ∧ (ad = none → cap = 0) := by
  subst hv
  obtain ⟨fuel, hf⟩ := h
  rcases Deep.open_slice Try.underlying45 hf with ⟨e, _⟩ | ⟨a, len', cap', m, n, D, Pl, e, _, hl, hm, hmm, _, hx⟩
  · cases e
    exact ⟨[], rfl, Nat.le_refl _, ⟨by simp [maxLen], fun i c hi => by simp at hi, fun c hc => by simp at hc⟩, fun _ => rfl⟩
  · cases e
    have hlm : len ≤ m := by rw [hmm]; split <;> omega
    have k43 : Try.prog.cellsOf 43 = 2 := by kernel_rfl
    have each : ∀ i, i < len → ∃ c : Int × Int, PtAt W (a.add (i * 2)) c ∧ WdP c := by
      intro i hi
      obtain ⟨cs', h1, h2⟩ := hx i (by omega)
      rw [k43] at h1
      exact pt_cells h1 h2
    refine ⟨(List.range len).map fun i => if h : i < len then Classical.choose (each i h) else (0, 0), by simp, hl, ⟨by simp; omega, fun i c hi => ?_, fun c hc => ?_⟩, fun e => by cases e⟩
    · rw [List.getElem?_map] at hi
      by_cases hlt : i < len
      · rw [List.getElem?_range hlt] at hi
        simp only [Option.map_some, hlt, dite_true, Option.some.injEq] at hi
        exact ⟨a, rfl, hi ▸ (Classical.choose_spec (each i hlt)).1⟩
      · rw [List.getElem?_eq_none (by simp; omega)] at hi; cases hi
    · obtain ⟨i, hi, rfl⟩ := List.mem_map.1 hc
      have hlt := List.mem_range.1 hi
      simp only [hlt, dite_true]
      exact (Classical.choose_spec (each i hlt)).2
end Go.Proofs.Ytedckelfdkfkoaa
