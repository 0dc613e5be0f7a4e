/- Walks: a row of colours, copied. -/
import Derived.Test.YtnladfpckejogaaM
import Derived.Laws.AppendOwn
namespace Go.Proofs.Ytnladfpckejogaa
open Go.RowKit Go.Shelf
attribute [local go_sem] Oper.semAt_some

/-- a row of colours, cell by cell -/
def colsV (l : List Col) : List Value := l.flatMap fun c => [.int .u8 c.1, .int .u8 c.2.1, .int .u8 c.2.2.1, .int .u8 c.2.2.2]
theorem colsV_length (l : List Col) : (colsV l).length = l.length * 4 := by
  induction l with
  | nil => rfl
  | cons c l ih => simp only [colsV, List.flatMap_cons, List.length_append, List.length_cons, List.length_nil] at *; omega
theorem colsV_at : ∀ (l : List Col) (i : Nat) (c : Col), l[i]? = some c →
    (colsV l)[i * 4]? = some (.int .u8 c.1) ∧ (colsV l)[i * 4 + 1]? = some (.int .u8 c.2.1) ∧ (colsV l)[i * 4 + 2]? = some (.int .u8 c.2.2.1) ∧ (colsV l)[i * 4 + 3]? = some (.int .u8 c.2.2.2)
  | [], i, c, h => by simp at h
  | d :: l, 0, c, h => by
    simp at h; subst h
    exact ⟨rfl, rfl, rfl, rfl⟩
  | d :: l, i + 1, c, h => by
    have ih := colsV_at l i c (by simpa using h)
    have e : ∀ k, (colsV (d :: l))[(i + 1) * 4 + k]? = (colsV l)[i * 4 + k]? := by
      intro k
      show ([_, _, _, _] ++ colsV l)[(i + 1) * 4 + k]? = _
      rw [List.getElem?_append_right (by simp; omega)]
      congr 1
      simp; omega
    exact ⟨(e 0).trans ih.1, (e 1).trans ih.2.1, (e 2).trans ih.2.2.1, (e 3).trans ih.2.2.2⟩
theorem add_off (a : Addr) (n k : Nat) (hk : 0 < k) : a.add (n + k) = ⟨(a.add n).block, (a.add n).off + k, none⟩ := by
  unfold Addr.add
  rw [if_neg (by omega)]
  by_cases h : n = 0
  · rw [if_pos h, h]; simp
  · rw [if_neg h]; simp [Nat.add_assoc]
/-- the cells of a row that came in -/
theorem cols_cells {W : World} {a : Addr} {l : List Col} (h : ColRow W (some a) l) : ∀ j u, (colsV l)[j]? = some u → W.cell? (a.add j) = some u := by
  intro j u hj
  have hlt : j < l.length * 4 := by rw [← colsV_length]; exact (List.getElem?_eq_some_iff.1 hj).1
  obtain ⟨c, hc⟩ : ∃ c, l[j / 4]? = some c := ⟨_, List.getElem?_eq_getElem (by omega)⟩
  obtain ⟨a', e, q0, q1, q2, q3⟩ := h.at_ _ c hc
  cases e
  obtain ⟨v0, v1, v2, v3⟩ := colsV_at l _ c hc
  have hm : j % 4 = 0 ∨ j % 4 = 1 ∨ j % 4 = 2 ∨ j % 4 = 3 := by omega
  have hd : j = j / 4 * 4 + j % 4 := by omega
  rcases hm with m | m | m | m <;> rw [m] at hd
  · rw [hd, Nat.add_zero] at hj ⊢
    rw [v0] at hj; rw [← hj]; exact q0
  · rw [hd] at hj ⊢
    rw [v1] at hj; rw [← hj, add_off _ _ _ (by omega)]; exact q1
  · rw [hd] at hj ⊢
    rw [v2] at hj; rw [← hj, add_off _ _ _ (by omega)]; exact q2
  · rw [hd] at hj ⊢
    rw [v3] at hj; rw [← hj, add_off _ _ _ (by omega)]; exact q3
/-- a row of one's own is a row of colours -/
theorem cols_of_own {W : World} {base : Nat} {v : Value} {l : List Col} (hl : l.length ≤ maxLen) (hb : ∀ c ∈ l, ByC c) (h : W.ownsRow base 27 4 v l.length (colsV l)) : ∃ ad cap, v = .slice ad l.length cap ∧ ColRow W ad l ∧ (ad = none → l = [] ∧ cap = 0) := by
  rcases h.2 with ⟨rfl, h0⟩ | ⟨g, cap, cur, rfl, _, hg, _, _, _, ht⟩
  · have : l = [] := List.length_eq_zero_iff.1 h0
    subst this
    exact ⟨none, 0, rfl, ⟨hl, fun i c hi => by simp at hi, hb⟩, fun _ => ⟨rfl, rfl⟩⟩
  · refine ⟨some ⟨g, 0, none⟩, cap, rfl, ⟨hl, fun i c hi => ⟨_, rfl, ?_⟩, hb⟩, fun e => by cases e⟩
    obtain ⟨v0, v1, v2, v3⟩ := colsV_at l i c hi
    have hc := h.cells (g := g) rfl
    refine ⟨hc _ _ v0, ?_, ?_, ?_⟩
    · rw [← add_off _ _ _ (by omega)]; exact hc _ _ v1
    · rw [← add_off _ _ _ (by omega)]; exact hc _ _ v2
    · rw [← add_off _ _ _ (by omega)]; exact hc _ _ v3
theorem colsV_one (l : List Col) : ∀ u ∈ colsV l, u.oneCell' = true := by
  intro u hu
  obtain ⟨c, _, hc⟩ := List.mem_flatMap.1 hu
  simp only [List.mem_cons, List.not_mem_nil, or_false] at hc
  rcases hc with rfl | rfl | rfl | rfl <;> rfl

set_option maxRecDepth 100000 in
set_option maxHeartbeats 1000000 in
theorem clone_any (ad : Option Addr) (cap : Nat) (l : List Col) (w : World) (h : ColRow w ad l) (hn : ad = none → cap = 0) (hl : l.length ≤ 1000) :
    Calls Try.prog 24 #[.slice ad l.length cap] w fun e w' => ∃ ad' cap', e = .returned (.slice ad' l.length cap') ∧ ColRow w' ad' l ∧ (ad' = none → l = [] ∧ cap' = 0) ∧ Below w.heap.size w w' := by
  cases ad with
  | none =>
    have e : l = [] := by
      cases l with
      | nil => rfl
      | cons c l => obtain ⟨_, e, _⟩ := h.at_ 0 c rfl; cases e
    subst e
    have hc := hn rfl
    subst hc
    clear hn
    have e1 : ∀ w, (binOp BinOp.eql 22 (.slice none 0 0) (.slice none 0 0)).run Try.prog w = .ok (.bool true) w := fun _ => by kernel_rfl
    go_enter Try.func24, Try.ntmps24
    go_wp2
    go_ret
    exact ⟨none, 0, rfl, h, fun _ => by simp, Below.refl _ _⟩
  | some a =>
    clear hn
    generalize hm : l.length = m at *
    have A := Lib.hid (And.intro hm h)
    clear hm h
    have e1 : ∀ w, (binOp BinOp.eql 22 (.slice (some a) m cap) (.slice none 0 0)).run Try.prog w = .ok (.bool false) w := fun _ => by kernel_rfl
    go_enter Try.func24, Try.ntmps24
    have hA := A.out
    have hO : (w.alloc (.cells #[] 27 (0, 0))).ownsRow w.heap.size 27 4 (.slice (some ⟨w.heap.size, 0, none⟩) 0 0) 0 [] := by
      refine ⟨by simp, .inr ⟨w.heap.size, 0, #[], rfl, Nat.le_refl _, Has.new w _, Nat.le_refl _, by unfold maxLen; omega, by simp, by simp⟩⟩
    have hC := cols_cells (hA.2.below ((Below.refl _ _).alloc (Nat.le_refl _) (.cells #[] 27 (0, 0))))
    go_wp2_with (at_builtin; refine wpList_append_own _ rfl _ _ 22 rfl w.heap.size 27 _ (.agg #[.int .u8 0, .int .u8 0, .int .u8 0, .int .u8 0]) 4 4 (by kernel_rfl) rfl rfl rfl rfl rfl (by omega) _ 0 [] rfl hO a m cap (colsV l) rfl (by rw [colsV_length, hA.1]) hC (colsV_one l) (by unfold maxLen; omega) (by omega) (by simp) ?_; intro v' w1 hown hg _)
    rw [Nat.zero_add, List.nil_append, ← hA.1] at hown
    obtain ⟨ad', cap', rfl, hc, hn⟩ := cols_of_own hA.2.len hA.2.by_ hown
    have hb : Below w.heap.size w w1 := ((Below.refl _ _).alloc (Nat.le_refl _) (.cells #[] 27 (0, 0))).grown hg (by simp) (fun k hk => by cases hk; simp)
    go_ret
    exact ⟨ad', cap', by rw [hA.1]; rfl, hc, hn, hb⟩
end Go.Proofs.Ytnladfpckejogaa
