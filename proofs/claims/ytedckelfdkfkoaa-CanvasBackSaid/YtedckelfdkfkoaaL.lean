/- Colours, rows of colours, tiles: what lies where. No program in sight. -/
import Derived.Test.YtedckelfdkfkoaaS
import Derived.StillTailTactics
import Derived.BigQuiet
import Derived.Lib.Hide
import Derived.Laws.AppendOwn
import Derived.Deep.LoopGhost
import Derived.Deep.MidRow
import Derived.Laws.Rows
import Derived.Laws.Tables
import Derived.ChangeKeysEq
import Derived.ScopeJumps
namespace Go.Proofs.Ytedckelfdkfkoaa
open Go.RowKit

/-- are two colours the same? -/
def colB (r g b a r' g' b' a' : Int) : Bool := decide (r = r' ∧ g = g' ∧ b = b' ∧ a = a')
theorem colB_self (r g b a : Int) : colB r g b a r g b a = true := by simp [colB]
theorem colB_true {r g b a r' g' b' a' : Int} (h : colB r g b a r' g' b' a' = true) : r = r' ∧ g = g' ∧ b = b' ∧ a = a' := by simpa [colB] using h
abbrev By (x : Int) : Prop := 0 ≤ x ∧ x ≤ 255
abbrev Col := Int × Int × Int × Int
def ByC (c : Col) : Prop := By c.1 ∧ By c.2.1 ∧ By c.2.2.1 ∧ By c.2.2.2
abbrev colV (c : Col) : Value := .agg #[.int .u8 c.1, .int .u8 c.2.1, .int .u8 c.2.2.1, .int .u8 c.2.2.2]
theorem colB_eq (c d : Col) : colB c.1 c.2.1 c.2.2.1 c.2.2.2 d.1 d.2.1 d.2.2.1 d.2.2.2 = decide (c = d) := by
  obtain ⟨a, b, e, f⟩ := c
  obtain ⟨a', b', e', f'⟩ := d
  simp [colB]
abbrev intV (i : Int) : Value := .int .i64 i
def ColAt (W : World) (p : Addr) (c : Col) : Prop := W.cell? p = some (.int .u8 c.1) ∧ W.cell? ⟨p.block, p.off + 1, none⟩ = some (.int .u8 c.2.1) ∧ W.cell? ⟨p.block, p.off + 2, none⟩ = some (.int .u8 c.2.2.1) ∧ W.cell? ⟨p.block, p.off + 3, none⟩ = some (.int .u8 c.2.2.2)
structure ColRow (W : World) (ad : Option Addr) (l : List Col) : Prop where
  len : l.length ≤ maxLen
  at_ : ∀ i c, l[i]? = some c → ∃ a, ad = some a ∧ ColAt W (a.add (i * 4)) c
  by_ : ∀ c ∈ l, ByC c
theorem cell_lt {W : World} {p : Addr} {v : Value} (h : W.cell? p = some v) : p.block < W.heap.size := by
  unfold World.cell? at h
  cases hb : W.heap[p.block]? with
  | none => rw [hb] at h; simp at h
  | some o => exact (Array.getElem?_eq_some_iff.1 hb).1
theorem ColAt.below {W W' : World} {p : Addr} {c : Col} (h : ColAt W p c) (hb : Below W.heap.size W W') : ColAt W' p c :=
  ⟨(hb.cell (cell_lt h.1)).trans h.1, (hb.cell (cell_lt h.2.1)).trans h.2.1, (hb.cell (cell_lt h.2.2.1)).trans h.2.2.1, (hb.cell (cell_lt h.2.2.2)).trans h.2.2.2⟩
theorem ColAt.drew {W : World} {p : Addr} {c : Col} (h : ColAt W p c) : ColAt W.drew p c := h
theorem ColRow.below {W W' : World} {ad : Option Addr} {l : List Col} (h : ColRow W ad l) (hb : Below W.heap.size W W') : ColRow W' ad l :=
  ⟨h.len, fun i c hi => let ⟨a, e, hc⟩ := h.at_ i c hi; ⟨a, e, hc.below hb⟩, h.by_⟩

/-- a row of colours, cell by cell -/
def colsV (l : List Col) : List Value := l.flatMap fun c => [.int .u8 c.1, .int .u8 c.2.1, .int .u8 c.2.2.1, .int .u8 c.2.2.2]
theorem colsV_length (l : List Col) : (colsV l).length = l.length * 4 := by
  induction l with
  | nil => rfl
  | cons c l ih => simp only [colsV, List.flatMap_cons, List.length_append, List.length_cons, List.length_nil] at *; omega
theorem colsV_at : ∀ (l : List Col) (i : Nat) (c : Col), l[i]? = some c →
    (colsV l)[i * 4]? = some (.int .u8 c.1) ∧ (colsV l)[i * 4 + 1]? = some (.int .u8 c.2.1) ∧ (colsV l)[i * 4 + 2]? = some (.int .u8 c.2.2.1) ∧ (colsV l)[i * 4 + 3]? = some (.int .u8 c.2.2.2)
  | [], i, c, h => by simp at h
  | d :: l, 0, c, h => by
    simp at h; subst h
    exact ⟨rfl, rfl, rfl, rfl⟩
  | d :: l, i + 1, c, h => by
    have ih := colsV_at l i c (by simpa using h)
    have e : ∀ k, (colsV (d :: l))[(i + 1) * 4 + k]? = (colsV l)[i * 4 + k]? := by
      intro k
      show ([_, _, _, _] ++ colsV l)[(i + 1) * 4 + k]? = _
      rw [List.getElem?_append_right (by simp; omega)]
      congr 1
      simp; omega
    exact ⟨(e 0).trans ih.1, (e 1).trans ih.2.1, (e 2).trans ih.2.2.1, (e 3).trans ih.2.2.2⟩
theorem add_off (a : Addr) (n k : Nat) (hk : 0 < k) : a.add (n + k) = ⟨(a.add n).block, (a.add n).off + k, none⟩ := by
  unfold Addr.add
  rw [if_neg (by omega)]
  by_cases h : n = 0
  · rw [if_pos h, h]; simp
  · rw [if_neg h]; simp [Nat.add_assoc]
/-- the cells of a row that came in -/
theorem cols_cells {W : World} {a : Addr} {l : List Col} (h : ColRow W (some a) l) : ∀ j u, (colsV l)[j]? = some u → W.cell? (a.add j) = some u := by
  intro j u hj
  have hlt : j < l.length * 4 := by rw [← colsV_length]; exact (List.getElem?_eq_some_iff.1 hj).1
  obtain ⟨c, hc⟩ : ∃ c, l[j / 4]? = some c := ⟨_, List.getElem?_eq_getElem (by omega)⟩
  obtain ⟨a', e, q0, q1, q2, q3⟩ := h.at_ _ c hc
  cases e
  obtain ⟨v0, v1, v2, v3⟩ := colsV_at l _ c hc
  have hm : j % 4 = 0 ∨ j % 4 = 1 ∨ j % 4 = 2 ∨ j % 4 = 3 := by omega
  have hd : j = j / 4 * 4 + j % 4 := by omega
  rcases hm with m | m | m | m <;> rw [m] at hd
  · rw [hd, Nat.add_zero] at hj ⊢
    rw [v0] at hj; rw [← hj]; exact q0
  · rw [hd] at hj ⊢
    rw [v1] at hj; rw [← hj, add_off _ _ _ (by omega)]; exact q1
  · rw [hd] at hj ⊢
    rw [v2] at hj; rw [← hj, add_off _ _ _ (by omega)]; exact q2
  · rw [hd] at hj ⊢
    rw [v3] at hj; rw [← hj, add_off _ _ _ (by omega)]; exact q3
/-- a row of one's own is a row of colours -/
theorem cols_of_own {W : World} {base E : Nat} {v : Value} {l : List Col} (hl : l.length ≤ maxLen) (hb : ∀ c ∈ l, ByC c) (h : W.ownsRow base E 4 v l.length (colsV l)) : ∃ ad cap, v = .slice ad l.length cap ∧ ColRow W ad l ∧ (ad = none → l = [] ∧ cap = 0) := by
  rcases h.2 with ⟨rfl, h0⟩ | ⟨g, cap, cur, rfl, _, hg, _, _, _, ht⟩
  · have : l = [] := List.length_eq_zero_iff.1 h0
    subst this
    exact ⟨none, 0, rfl, ⟨hl, fun i c hi => by simp at hi, hb⟩, fun _ => ⟨rfl, rfl⟩⟩
  · refine ⟨some ⟨g, 0, none⟩, cap, rfl, ⟨hl, fun i c hi => ⟨_, rfl, ?_⟩, hb⟩, fun e => by cases e⟩
    obtain ⟨v0, v1, v2, v3⟩ := colsV_at l i c hi
    have hc := h.cells (g := g) rfl
    refine ⟨hc _ _ v0, ?_, ?_, ?_⟩
    · rw [← add_off _ _ _ (by omega)]; exact hc _ _ v1
    · rw [← add_off _ _ _ (by omega)]; exact hc _ _ v2
    · rw [← add_off _ _ _ (by omega)]; exact hc _ _ v3
theorem colsV_one (l : List Col) : ∀ u ∈ colsV l, u.oneCell' = true := by
  intro u hu
  obtain ⟨c, _, hc⟩ := List.mem_flatMap.1 hu
  simp only [List.mem_cons, List.not_mem_nil, or_false] at hc
  rcases hc with rfl | rfl | rfl | rfl <;> rfl

/-! ### Tiles -/
abbrev tileA (T : List Col) : Array Value := (colsV T).toArray
theorem tileA_size (T : List Col) : (tileA T).size = T.length * 4 := by simp [colsV_length]
theorem tileA_one (T : List Col) : (tileA T).all (·.oneCell') = true := all_oneCell_toArray (colsV_one T)
theorem colsV_set : ∀ (T : List Col) (k : Nat) (c : Col), k < T.length →
    ((((colsV T).set (k * 4) (.int .u8 c.1)).set (k * 4 + 1) (.int .u8 c.2.1)).set (k * 4 + 2) (.int .u8 c.2.2.1)).set (k * 4 + 3) (.int .u8 c.2.2.2) = colsV (T.set k c)
  | [], k, c, h => by simp at h
  | d :: T, 0, c, _ => rfl
  | d :: T, k + 1, c, h => by
    have ih := colsV_set T k c (by simpa using h)
    have e : colsV ((d :: T).set (k + 1) c) = .int .u8 d.1 :: .int .u8 d.2.1 :: .int .u8 d.2.2.1 :: .int .u8 d.2.2.2 :: colsV (T.set k c) := rfl
    rw [e, ← ih, show (k + 1) * 4 = k * 4 + 4 by omega]
    rfl
theorem tileA_set (T : List Col) (k : Nat) (c : Col) (h : k < T.length) :
    ((((tileA T).setIfInBounds (k * 4) (.int .u8 c.1)).setIfInBounds (k * 4 + 1) (.int .u8 c.2.1)).setIfInBounds (k * 4 + 2) (.int .u8 c.2.2.1)).setIfInBounds (k * 4 + 3) (.int .u8 c.2.2.2) = tileA (T.set k c) := by
  simp only [tileA, List.setIfInBounds_toArray]
  rw [colsV_set T k c h]
/-- the colour at a place -/
def atT (T : List Col) (k : Nat) : Col := T.getD k (0, 0, 0, 0)
theorem atT_eq {T : List Col} {k : Nat} (hk : k < T.length) : T[k]? = some (atT T k) := by unfold atT; rw [List.getD_eq_getElem?_getD, List.getElem?_eq_getElem hk]; rfl
theorem tile_at {T : List Col} {k : Nat} (hk : k < T.length) : (tileA T)[k * 4]? = some (.int .u8 (atT T k).1) ∧ (tileA T)[k * 4 + 1]? = some (.int .u8 (atT T k).2.1) ∧ (tileA T)[k * 4 + 2]? = some (.int .u8 (atT T k).2.2.1) ∧ (tileA T)[k * 4 + 3]? = some (.int .u8 (atT T k).2.2.2) := by
  simpa using colsV_at T k _ (atT_eq hk)
theorem atT_by {T : List Col} (hT : ∀ c ∈ T, ByC c) {k : Nat} (hk : k < T.length) : ByC (atT T k) := hT _ (List.mem_of_getElem? (atT_eq hk))
theorem atT_set {T : List Col} {k j : Nat} {c : Col} (hk : k < T.length) : atT (T.set k c) j = if j = k then c else atT T j := by
  unfold atT
  simp only [List.getD_eq_getElem?_getD]
  by_cases h : j = k
  · subst h; simp [hk]
  · rw [if_neg h, List.getElem?_set_ne (Ne.symm h)]
theorem tile_ext {T T' : List Col} (hl : T.length = T'.length) (h : ∀ k, k < T.length → atT T k = atT T' k) : T = T' := by
  apply List.ext_getElem?
  intro k
  by_cases hk : k < T.length
  · rw [atT_eq hk, atT_eq (by omega), h k hk]
  · rw [List.getElem?_eq_none (by omega), List.getElem?_eq_none (by omega)]
/-- a tile's cells as they are stored one by one -/
theorem Has.putCol {X : World} {b : Nat} {T : List Col} {ty : TypeId} (h : Has X b (.cells (tileA T) ty (0, 0))) (k : Nat) (hk : k < T.length) (c : Col) :
    Has ((((X.setCell ⟨b, k * 4, none⟩ (.int .u8 c.1)).setCell ⟨b, k * 4 + 1, none⟩ (.int .u8 c.2.1)).setCell ⟨b, k * 4 + 2, none⟩ (.int .u8 c.2.2.1)).setCell ⟨b, k * 4 + 3, none⟩ (.int .u8 c.2.2.2)) b (.cells (tileA (T.set k c)) ty (0, 0)) := by
  rw [← tileA_set T k c hk]
  exact (((h.set _ _).set _ _).set _ _).set _ _

/-- pixel k of a tile in block n -/
def PixAt (W : World) (n k : Nat) (c : Col) : Prop := W.cell? ⟨n, k * 4, none⟩ = some (.int .u8 c.1) ∧ W.cell? ⟨n, k * 4 + 1, none⟩ = some (.int .u8 c.2.1) ∧ W.cell? ⟨n, k * 4 + 2, none⟩ = some (.int .u8 c.2.2.1) ∧ W.cell? ⟨n, k * 4 + 3, none⟩ = some (.int .u8 c.2.2.2)
theorem Has.pix {W : World} {n : Nat} {T : List Col} {ty : TypeId} {z : Nat × Nat} (h : Has W n (.cells (tileA T) ty z)) {k : Nat} (hk : k < T.length) : PixAt W n k (atT T k) := by
  obtain ⟨e0, e1, e2, e3⟩ := tile_at hk
  exact ⟨(h.cell _).trans e0, (h.cell _).trans e1, (h.cell _).trans e2, (h.cell _).trans e3⟩
theorem Has.pixf {W : World} {n : Nat} {T : List Col} {ty : TypeId} (h : Has W n (.cells (tileA T) ty (0, 0))) {k : Nat} (hk : k < T.length) :
    PixAt W n k (atT T k) ∧ W.frozen? ⟨n, k * 4, none⟩ = false ∧ W.frozen? ⟨n, k * 4 + 1, none⟩ = false ∧ W.frozen? ⟨n, k * 4 + 2, none⟩ = false ∧ W.frozen? ⟨n, k * 4 + 3, none⟩ = false := by
  obtain ⟨e0, e1, e2, e3⟩ := tile_at hk
  exact ⟨⟨(h.cell _).trans e0, (h.cell _).trans e1, (h.cell _).trans e2, (h.cell _).trans e3⟩, h.free _, h.free _, h.free _, h.free _⟩
theorem grew_putCol {rows : List Nat} {A X : World} {r k : Nat} (h : Grew rows A X) (hr : r ∈ rows ∨ A.heap.size ≤ r) (a b c d : Value) :
    Grew rows A ((((X.setCell ⟨r, k * 4, none⟩ a).setCell ⟨r, k * 4 + 1, none⟩ b).setCell ⟨r, k * 4 + 2, none⟩ c).setCell ⟨r, k * 4 + 3, none⟩ d) :=
  (((h.setCell (a := ⟨r, _, none⟩) a hr).setCell (a := ⟨r, _, none⟩) b hr).setCell (a := ⟨r, _, none⟩) c hr).setCell (a := ⟨r, _, none⟩) d hr
theorem PixAt.drew {W : World} {n k : Nat} {c : Col} (h : PixAt W n k c) : PixAt W.drew n k c := h

/-! ### Rows of points -/
def PtAt (W : World) (p : Addr) (q : Int × Int) : Prop := W.cell? p = some (.int .i64 q.1) ∧ W.cell? ⟨p.block, p.off + 1, none⟩ = some (.int .i64 q.2)
def WdP (q : Int × Int) : Prop := (-9223372036854775808 ≤ q.1 ∧ q.1 ≤ 9223372036854775807) ∧ -9223372036854775808 ≤ q.2 ∧ q.2 ≤ 9223372036854775807
structure PtRow (W : World) (ad : Option Addr) (l : List (Int × Int)) : Prop where
  len : l.length ≤ maxLen
  at_ : ∀ i q, l[i]? = some q → ∃ a, ad = some a ∧ PtAt W (a.add (i * 2)) q
  by_ : ∀ q ∈ l, WdP q
theorem PtAt.below {W W' : World} {p : Addr} {q : Int × Int} (h : PtAt W p q) (hb : Below W.heap.size W W') : PtAt W' p q :=
  ⟨(hb.cell (cell_lt h.1)).trans h.1, (hb.cell (cell_lt h.2)).trans h.2⟩
theorem PtAt.drew {W : World} {p : Addr} {q : Int × Int} (h : PtAt W p q) : PtAt W.drew p q := h
theorem PtRow.below {W W' : World} {ad : Option Addr} {l : List (Int × Int)} (h : PtRow W ad l) (hb : Below W.heap.size W W') : PtRow W' ad l :=
  ⟨h.len, fun i c hi => let ⟨a, e, hc⟩ := h.at_ i c hi; ⟨a, e, hc.below hb⟩, h.by_⟩

/-! ### Whole rows -/
/-- the cells of a block, and may they be written? -/
def rowAt (w : World) (b : Nat) : Option (Array Value) := match w.heap[b]? with | some (.cells cs _ _) => some cs | _ => none
def rowFree (w : World) (b : Nat) : Bool := match w.heap[b]? with | some (.cells _ _ fr) => fr == (0, 0) | _ => false
theorem Has.row {W : World} {b : Nat} {cs : Array Value} {T : TypeId} {z : Nat × Nat} (h : Has W b (.cells cs T z)) : rowAt W b = some cs := by
  unfold rowAt; rw [show W.heap[b]? = _ from h]
theorem Has.rowFree {W : World} {b : Nat} {cs : Array Value} {T : TypeId} (h : Has W b (.cells cs T (0, 0))) : rowFree W b = true := by
  unfold Go.Proofs.Ytedckelfdkfkoaa.rowFree; rw [show W.heap[b]? = _ from h]; rfl
theorem rowAt_spec {w : World} {b : Nat} {cs : Array Value} (h : rowAt w b = some cs) : ∃ T z, w.heap[b]? = some (.cells cs T z) := by
  unfold rowAt at h
  split at h
  · rename_i cs' T z he; cases h; exact ⟨T, z, he⟩
  · cases h
theorem rowFree_spec {w : World} {b : Nat} (h : rowFree w b = true) : ∃ cs T, w.heap[b]? = some (.cells cs T (0, 0)) := by
  unfold rowFree at h
  split at h
  · rename_i cs' T z he
    have : z = (0, 0) := by simpa using h
    subst this; exact ⟨_, _, he⟩
  · cases h
theorem rowAt_alloc (w : World) (cs : Array Value) (T : TypeId) (z : Nat × Nat) (b : Nat) : rowAt (w.alloc (.cells cs T z)) b = if b = w.heap.size then some cs else rowAt w b := by
  unfold rowAt
  by_cases h : b = w.heap.size
  · subst h; rw [if_pos rfl, World.alloc_heap_new]
  · rw [if_neg h]
    show (match (w.heap.push _)[b]? with | some (.cells cs _ _) => some cs | _ => none) = _
    rw [Array.getElem?_push, if_neg h]
theorem rowAt_alloc_map (w : World) (es : Array MapEntry) (c : Nat) (b : Nat) : rowAt (w.alloc (.map es c)) b = if b = w.heap.size then none else rowAt w b := by
  unfold rowAt
  by_cases h : b = w.heap.size
  · subst h; rw [if_pos rfl, World.alloc_heap_new]
  · rw [if_neg h]
    show (match (w.heap.push _)[b]? with | some (.cells cs _ _) => some cs | _ => none) = _
    rw [Array.getElem?_push, if_neg h]
theorem rowFree_alloc (w : World) (cs : Array Value) (T : TypeId) (b : Nat) : rowFree (w.alloc (.cells cs T)) b = if b = w.heap.size then true else rowFree w b := by
  unfold rowFree
  by_cases h : b = w.heap.size
  · subst h; rw [if_pos rfl, World.alloc_heap_new]; rfl
  · rw [if_neg h]
    show (match (w.heap.push _)[b]? with | some (.cells _ _ fr) => fr == (0, 0) | _ => false) = _
    rw [Array.getElem?_push, if_neg h]
theorem rowAt_drew (w : World) (b : Nat) : rowAt w.drew b = rowAt w b := rfl
theorem rowFree_drew (w : World) (b : Nat) : rowFree w.drew b = rowFree w b := rfl
theorem rowAt_setCell_other (w : World) (a : Addr) (v : Value) (b : Nat) (h : b ≠ a.block) : rowAt (w.setCell a v) b = rowAt w b := by
  unfold rowAt; rw [heap_setCell_other w a b v h]
theorem rowFree_setCell_other (w : World) (a : Addr) (v : Value) (b : Nat) (h : b ≠ a.block) : rowFree (w.setCell a v) b = rowFree w b := by
  unfold rowFree; rw [heap_setCell_other w a b v h]
theorem Has.setRow {W : World} {b : Nat} {cs : Array Value} {T : TypeId} {z : Nat × Nat} (h : Has W b (.cells cs T z)) (cs' : Array Value) : Has (W.setRow b cs') b (.cells cs' T z) := setRow_heap W b cs cs' T z h
theorem Has.setRow_other {W : World} {b k : Nat} {o : Obj} (h : Has W k o) (cs' : Array Value) (hne : k ≠ b) : Has (W.setRow b cs') k o := (Go.setRow_other W b k cs' hne).trans h
theorem below_setRow {n : Nat} {A B : World} (h : Below n A B) {b : Nat} (hb : n ≤ b) (cs : Array Value) : Below n A (B.setRow b cs) :=
  ⟨h.os, h.tape, h.output, by simp only [size_setRow]; exact h.size, fun k hk => (setRow_other B b k cs (by omega)).trans (h.block k hk)⟩
theorem Grew.setRow {rows : List Nat} {A B : World} (h : Grew rows A B) {b : Nat} (cs : Array Value) (hr : b ∈ rows ∨ A.heap.size ≤ b) : Grew rows A (B.setRow b cs) :=
  ⟨h.os, h.tape, h.output, by simp only [size_setRow]; exact h.size, fun k hk hn => (setRow_other B b k cs (by rintro rfl; rcases hr with hr | hr; exact hn hr; omega)).trans (h.block k hk hn)⟩
theorem rowAt_setRow (w : World) (g : Nat) (cs : Array Value) (b : Nat) (h : (rowAt w g).isSome = true) : rowAt (w.setRow g cs) b = if b = g then some cs else rowAt w b := by
  obtain ⟨old, ho⟩ := Option.isSome_iff_exists.1 h
  obtain ⟨T, z, hg⟩ := rowAt_spec ho
  by_cases e : b = g
  · subst e; rw [if_pos rfl]; exact (Has.setRow (W := w) hg cs).row
  · rw [if_neg e]; unfold rowAt; rw [setRow_other w g b cs e]
section
variable {P : Program}
/-- A whole row is read .. -/
theorem run_loadAt_rowAt {ty : TypeId} {d : TypeDesc} {n : Nat} (hu : P.underlying ty = some d) (hd : d.isRow = true) (hi : (P.info? ty).map (·.size) = some n) (w : World) (b : Nat) (h : (rowAt w b).map Array.size = some n) :
    (Instr.loadAt ty (.pointer (some ⟨b, 0, none⟩))).run P w = .ok (.agg ((rowAt w b).getD #[])) w := by
  obtain ⟨cs, ho⟩ : ∃ cs, rowAt w b = some cs := by cases hr : rowAt w b with | none => rw [hr] at h; cases h | some cs => exact ⟨cs, rfl⟩
  rw [ho] at h ⊢
  obtain ⟨T, z, hg⟩ := rowAt_spec ho
  simp only [Option.map_some, Option.some.injEq] at h
  subst h
  have hl := run_loadVar_row w b T ty cs z d hg hu (by cases d <;> first | rfl | (simp [TypeDesc.isRow] at hd)) hi
  simp only [Instr.loadAt, Instr.sureAddr, Sem.run_bind, Sem.run_pure, Result.andThen_ok, hl, Option.getD_some]
/-- .. and written. -/
theorem run_storeAt_rowAt {ty : TypeId} {n : Nat} (hi : (P.info? ty).map (·.size) = some n) (w : World) (b : Nat) (A : Array Value) (h : (rowAt w b).map Array.size = some n) (hf : rowFree w b = true) (hs : A.size = n) (h1 : A.all (·.oneCell') = true) :
    (Instr.storeAt ty (.pointer (some ⟨b, 0, none⟩)) (.agg A)).run P w = .ok () (w.setRow b A) := by
  obtain ⟨cs, T, hg⟩ := rowFree_spec hf
  have ho : rowAt w b = some cs := Has.row (W := w) hg
  rw [ho] at h
  simp only [Option.map_some, Option.some.injEq] at h
  subst hs
  simp only [Instr.storeAt, Instr.sureAddr, Sem.run_bind, Sem.run_pure, Result.andThen_ok, run_storeVar_row w b T ty cs A hg hi h h1]
end

/-- A value of the whole variable's size put at its head is the variable. -/
theorem fold_at : ∀ (l : List Value) (k : Nat) (C : Array Value) (i : Nat), k + l.length ≤ C.size →
    ((l.zipIdx k).foldl (fun cs (p : Value × Nat) => cs.setIfInBounds (0 + p.2) p.1) C)[i]? = if k ≤ i ∧ i < k + l.length then l[i - k]? else C[i]?
  | [], k, C, i, _ => by simp; intro h1 h2; omega
  | v :: l, k, C, i, h => by
    simp only [List.length_cons] at h
    rw [List.zipIdx_cons, List.foldl_cons, fold_at l (k + 1) _ i (by simp; omega)]
    simp only [Nat.zero_add, List.length_cons]
    by_cases hi : i = k
    · subst hi
      rw [if_neg (by omega), if_pos (by omega), Nat.sub_self, List.getElem?_cons_zero, Array.getElem?_setIfInBounds_self_of_lt (by omega)]
    · by_cases hlt : k + 1 ≤ i ∧ i < k + 1 + l.length
      · rw [if_pos hlt, if_pos (by omega), show i - k = (i - (k + 1)) + 1 by omega, List.getElem?_cons_succ]
      · rw [if_neg hlt, if_neg (by omega), Array.getElem?_setIfInBounds_ne (Ne.symm hi)]
theorem fold_whole (A C : Array Value) (h : A.size = C.size) : (A.zipIdx.foldl (fun cs (p : Value × Nat) => cs.setIfInBounds (0 + p.2) p.1) C) = A := by
  have hz : A.zipIdx = (A.toList.zipIdx 0).toArray := by apply Array.ext'; simp
  apply Array.ext_getElem?
  intro i
  rw [hz, List.foldl_toArray, fold_at _ _ _ _ (by simp; omega)]
  by_cases hi : i < A.size
  · rw [if_pos (by simp; omega)]; simp
  · rw [if_neg (by simp; omega), Array.getElem?_eq_none (by omega), Array.getElem?_eq_none (by omega)]

/-- the block that a pointer names; the cells of an aggregate -/
def blkOf : Value → Nat | .pointer (some ⟨b, 0, none⟩) => b | _ => 0
def aggOf : Value → Array Value | .agg A => A | _ => #[]
theorem blkOf_ptr (b : Nat) : blkOf (.pointer (some ⟨b, 0, none⟩)) = b := rfl
theorem aggOf_agg (A : Array Value) : aggOf (.agg A) = A := rfl
theorem exec_load_row {P : Program} {ty : TypeId} {d : TypeDesc} {n : Nat} (hu : P.underlying ty = some d) (hd : d.isRow = true) (hi : (P.info? ty).map (·.size) = some n)
    (e : Operand → Value) (x : Operand) (dst : Option Tmp) (t : TypeId) (pos : String) (af : Array Edge) (g : Option (Nat × Bool)) (w : World)
    (hx : e x = .pointer (some ⟨blkOf (e x), 0, none⟩)) (h : (rowAt w (blkOf (e x))).map Array.size = some n) :
    (execOp e ⟨dst, .load ty x, t, pos, af, g⟩).run P w = .ok (.value (.agg ((rowAt w (blkOf (e x))).getD #[]))) w := by
  have h1 := run_loadAt_rowAt (P := P) hu hd hi w (blkOf (e x)) h
  rw [← hx] at h1
  unfold execOp
  simp only [Sem.run_bind, h1, Result.andThen_ok, Sem.run_pure]
/-- each value is one cell -/
def onesB (A : Array Value) : Bool := A.all (·.oneCell')
theorem onesB_tile (T : List Col) : onesB (tileA T) = true := tileA_one T
theorem exec_store_row {P : Program} {ty : TypeId} {n : Nat} (hi : (P.info? ty).map (·.size) = some n)
    (e : Operand → Value) (x y : Operand) (dst : Option Tmp) (t : TypeId) (pos : String) (af : Array Edge) (g : Option (Nat × Bool)) (w : World)
    (hx : e x = .pointer (some ⟨blkOf (e x), 0, none⟩)) (hy : e y = .agg (aggOf (e y))) (h : (rowAt w (blkOf (e x))).map Array.size = some n) (hf : rowFree w (blkOf (e x)) = true) (hs : (aggOf (e y)).size = n) (h1 : onesB (aggOf (e y)) = true) :
    (execOp e ⟨dst, .store ty x y, t, pos, af, g⟩).run P w = .ok .skip (w.setRow (blkOf (e x)) (aggOf (e y))) := by
  have h1 := run_storeAt_rowAt (P := P) hi w (blkOf (e x)) (aggOf (e y)) h hf hs h1
  rw [← hx, ← hy] at h1
  unfold execOp
  simp only [Sem.run_bind, h1, Result.andThen_ok, Sem.run_pure]

theorem Grew.mono {rows rows' : List Nat} {W W' : World} (h : Grew rows W W') (hr : ∀ r ∈ rows, r ∈ rows') : Grew rows' W W' := ⟨h.os, h.tape, h.output, h.size, fun k hk hn => h.block k hk (fun hm => hn (hr k hm))⟩
theorem below_grew {A B : World} (h : Below A.heap.size A B) (rows : List Nat) : Grew rows A B := ⟨h.os, h.tape, h.output, h.size, fun k hk _ => h.block k hk⟩
theorem Grew.one {r : Nat} {W W' : World} (h : Grew [r] W W') : W.grownBy W' (some r) := ⟨h.os, h.tape, h.output, h.size, fun k hk hne => h.block k hk (by simp; rintro rfl; exact hne rfl)⟩
theorem Grew.keepsFrom {rows : List Nat} {B : Nat} {W W' : World} (h : Grew rows W W') (hr : ∀ r ∈ rows, r < B) : KeepsFrom B W W' :=
  ⟨h.size, fun k o hB hk _ => (h.block k (Array.getElem?_eq_some_iff.1 hk).1 (fun hm => by have := hr k hm; omega)).trans hk⟩
/-- the end of a round that turns some blocks alone -/
theorem round_end {α : Type} {rows : List Nat} {B n : Nat} {A W W' : World} {p : List α → World → Prop} {Ix : Code → List α → World → Prop} {xs : List α} {a : Act} (hA : Grew rows A W) (hn : n ≤ A.heap.size) (hlo : ∀ r ∈ rows, n ≤ r) (hhi : ∀ r ∈ rows, r < B) (h : Grew rows W W') (hp : p xs W') :
    ownPostG B (Below n) (fun pre W => Grew rows A W ∧ p pre W) Ix xs W .normal a W' :=
  ⟨h.keepsFrom hhi, h.below (Nat.le_trans hn hA.size) hlo, hA.trans h, hp⟩
theorem round_conj {rows : List Nat} {B n : Nat} {A W W' : World} {q : Prop} (hA : Grew rows A W) (hn : n ≤ A.heap.size) (hlo : ∀ r ∈ rows, n ≤ r) (hhi : ∀ r ∈ rows, r < B) (h : Grew rows W W') (hp : q) :
    KeepsFrom B W W' ∧ Below n W W' ∧ Grew rows A W' ∧ q := ⟨h.keepsFrom hhi, h.below (Nat.le_trans hn hA.size) hlo, hA.trans h, hp⟩
/-- the mark of a loop is taken: nothing that was there has turned -/
theorem below_mark {n D : Nat} {W : World} {l : List Deferred} (_ : Has W D (.deferred (some l))) (hn : n ≤ D) : Below n W (W.putObj D (.deferred none)) :=
  ⟨rfl, rfl, rfl, by simp only [World.putObj_size]; exact Nat.le_refl _, fun k hk => World.putObj_heap_other (by omega)⟩

/-- A scope whose label is a loop's head. -/
theorem wp_scope_loop {P : Program} {Q : Exit → Act → World → Prop} {a : Act} {w : World} {pre rest : Code} {l : Nat} (J : Nat → Act → World → Prop) (n₀ : Nat) (hp : findLabel pre l = none)
    (first : pre.wp P (Exit.then (J n₀) (fun _ _ _ => False)) a w)
    (pass : ∀ n a w, J n a w → rest.wp P (Exit.jump l (fun a' w' => ∃ m, m < n ∧ J m a' w') Q) a w) : (Code.scope (pre.seq ((Code.label l).seq rest))).wp P Q a w := by
  have key : ∀ (n : Nat) a w, J n a w → rest.wp P (Exit.jump l (fun a' w' => (∃ m, J m a' w') ∧ leastOf (fun n => J n a' w') < leastOf (fun n => J n a w)) Q) a w := by
    intro n a w hJ
    have hs := leastOf_spec (p := fun n => J n a w) ⟨n, hJ⟩
    refine wp_mono (pass _ a w hs.1) ?_
    intro e a' w' hq
    cases e <;> first | exact hq | (obtain ⟨h1, m, hm, hJ'⟩ := hq; exact ⟨h1, ⟨m, hJ'⟩, Nat.lt_of_le_of_lt ((leastOf_spec ⟨m, hJ'⟩).2 m hJ') hm⟩)
  refine wp_scope_jumps (rest := Code.seq .skip rest) l (fun a w => ∃ n, J n a w) (fun a w => leastOf (fun n => J n a w)) (by simp [findLabel, hp]) ?_ ?_
  · refine wp_seq (wp_mono first ?_)
    intro e a' w' hq
    cases e <;> first | exact hq.elim | (refine wp_seq (wp_label (wp_mono (key n₀ a' w' hq) ?_)); intro e a w h; cases e <;> first | exact h | exact ⟨h.1, h.2.1⟩)
  · rintro a w ⟨n, hJ⟩
    exact wp_seq (wp_skip (key n a w hJ))

theorem cell_grew {rows : List Nat} {W W' : World} {p : Addr} {v : Value} (h : W.cell? p = some v) (hg : Grew rows W W') (hp : p.block ∉ rows) : W'.cell? p = some v := by
  have hl := cell_lt h
  unfold World.cell? at h ⊢
  rw [hg.block _ hl hp]; exact h
theorem ColAt.grew {rows : List Nat} {W W' : World} {p : Addr} {c : Col} (h : ColAt W p c) (hg : Grew rows W W') (hp : p.block ∉ rows) : ColAt W' p c :=
  ⟨cell_grew h.1 hg hp, cell_grew h.2.1 hg hp, cell_grew h.2.2.1 hg hp, cell_grew h.2.2.2 hg hp⟩
theorem add_block (a : Addr) (n : Nat) : (a.add n).block = a.block := by unfold Addr.add; split <;> rfl
theorem ColRow.grew {rows : List Nat} {W W' : World} {ad : Option Addr} {l : List Col} (h : ColRow W ad l) (hg : Grew rows W W') (hp : ∀ a, ad = some a → a.block ∉ rows) : ColRow W' ad l :=
  ⟨h.len, fun i c hi => let ⟨a, e, hc⟩ := h.at_ i c hi; ⟨a, e, hc.grew hg (by rw [add_block]; exact hp a e)⟩, h.by_⟩
theorem Has.colRow {W : World} {b : Nat} {T : List Col} {ty : TypeId} {z : Nat × Nat} (h : Has W b (.cells (tileA T) ty z)) (hl : T.length ≤ maxLen) (hb : ∀ c ∈ T, ByC c) : ColRow W (some ⟨b, 0, none⟩) T := by
  refine ⟨hl, fun i c hi => ⟨_, rfl, ?_⟩, hb⟩
  obtain ⟨e0, e1, e2, e3⟩ := colsV_at T i c hi
  have ha : (⟨b, 0, none⟩ : Addr).add (i * 4) = ⟨b, i * 4, none⟩ := by rw [Addr.add_mid]; simp
  rw [ha]
  exact ⟨by rw [h.cell]; simpa using e0, by show W.cell? ⟨b, i * 4 + 1, none⟩ = _; rw [h.cell]; simpa using e1, by show W.cell? ⟨b, i * 4 + 2, none⟩ = _; rw [h.cell]; simpa using e2, by show W.cell? ⟨b, i * 4 + 3, none⟩ = _; rw [h.cell]; simpa using e3⟩

theorem grew_put4 {rows : List Nat} {A X : World} {r : Nat} (h : Grew rows A X) (hr : r ∈ rows ∨ A.heap.size ≤ r) (a b c d : Value) : Grew rows A (w4 X r a b c d) :=
  (((h.setCell (a := ⟨r, 0, none⟩) a hr).setCell (a := ⟨r, 1, none⟩) b hr).setCell (a := ⟨r, 2, none⟩) c hr).setCell (a := ⟨r, 3, none⟩) d hr
theorem news_col (W : World) (c : Col) (T : TypeId) : ∀ j u, (colsV [c])[j]? = some u → (W.alloc (.cells #[.int .u8 c.1, .int .u8 c.2.1, .int .u8 c.2.2.1, .int .u8 c.2.2.2] T)).cell? ((⟨W.heap.size, 0, none⟩ : Addr).add j) = some u := by
  intro j u hj
  have hc := Has.new W (.cells #[.int .u8 c.1, .int .u8 c.2.1, .int .u8 c.2.2.1, .int .u8 c.2.2.2] T)
  match j, hj with
  | 0, hj => cases hj; exact hc.cell 0
  | 1, hj => cases hj; exact hc.cell 1
  | 2, hj => cases hj; exact hc.cell 2
  | 3, hj => cases hj; exact hc.cell 3
  | j + 4, hj => simp [colsV] at hj
theorem colsV_snoc (l : List Col) (c : Col) : colsV (l ++ [c]) = colsV l ++ colsV [c] := by simp [colsV]
/-- a call in a round -/
theorem inRd {P : Program} {f l : Nat} {args : Array Value} {w : World} {R R' : Ending → World → Prop} (h : Calls P f args w R) (hm : ∀ e w', R e w' → R' e w') : CallsIn (Fence.wide.inRound l) 0 P f args w R' :=
  CallsIn.inRound l (callsIn_wide.2 (h.mono hm))

/-! ### The places of a tile -/
def placesL : List (Int × Int) := (List.range 64).map fun k => (((k % 8 : Nat) : Int), ((k / 8 : Nat) : Int))
abbrev encP (p : Int × Int) : Array Value := #[.int .i64 p.1, .int .i64 p.2]
theorem placesL_length : placesL.length = 64 := by simp [placesL]
theorem placesL_at {k : Nat} (hk : k < 64) : placesL[k]? = some (((k % 8 : Nat) : Int), ((k / 8 : Nat) : Int)) := by simp [placesL, hk]
theorem snoc_prefix {α : Type} {L pre : List α} {x : α} (h : pre ++ [x] <+: L) : pre = L.take pre.length ∧ L[pre.length]? = some x := by
  obtain ⟨t, rfl⟩ := h
  simp
theorem take_snoc {α : Type} {L : List α} {k : Nat} {x : α} (h : L[k]? = some x) : L.take k ++ [x] = L.take (k + 1) := by
  rw [List.take_add_one, h]; rfl
theorem take_snoc_prefix {α : Type} {L : List α} {k : Nat} {x : α} (h : L[k]? = some x) : L.take k ++ [x] <+: L := by
  rw [take_snoc h]; exact List.take_prefix _ _
/-- the k-th round over the places -/
theorem places_round {pre : List (Int × Int)} {x : Int × Int} (h : pre ++ [x] <+: placesL) : ∃ a b : Nat, a < 8 ∧ b < 8 ∧ pre.length = b * 8 + a ∧ x = ((a : Int), (b : Int)) ∧ pre ++ [x] = placesL.take (b * 8 + a + 1) ∧ pre = placesL.take (b * 8 + a) := by
  obtain ⟨h1, h2⟩ := snoc_prefix h
  have hlt : pre.length < 64 := by rw [← placesL_length]; exact (List.getElem?_eq_some_iff.1 h2).1
  have h3 := h2
  rw [placesL_at hlt] at h2
  have e : pre.length = pre.length / 8 * 8 + pre.length % 8 := by omega
  refine ⟨pre.length % 8, pre.length / 8, by omega, by omega, e, (Option.some.inj h2).symm, ?_, ?_⟩
  · rw [← e]
    conv => lhs; rw [h1]
    exact take_snoc h3
  · rw [← e]; exact h1
end Go.Proofs.Ytedckelfdkfkoaa
