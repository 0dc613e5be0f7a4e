/- Rows of tiles: what lies where, and how a tile in a row is read. -/
import Derived.Test.YtedckelfdkfkoaaA
import Derived.Test.YtedckelfdkfkoaaSi
import Derived.Test.YtedckelfdkfkoaaCv
import Derived.Laws.Cells
namespace Go.Proofs.Ytedckelfdkfkoaa
open Go.RowKit Go.Shelf

/-- the tile at an address -/
def TilAt (W : World) (p : Addr) (T : List Col) : Prop := ∀ j v, (colsV T)[j]? = some v → W.cell? (p.add j) = some v
structure TilRow (W : World) (ad : Option Addr) (l : List (List Col)) : Prop where
  len : l.length ≤ maxLen
  at_ : ∀ i T, l[i]? = some T → ∃ a, ad = some a ∧ TilAt W (a.add (i * 256)) T
  l64 : ∀ T ∈ l, T.length = 64
  by_ : ∀ T ∈ l, ∀ d ∈ T, ByC d
theorem TilAt.since {X Y : World} {p : Addr} {T : List Col} (h : TilAt X p T) (s : Since X Y) : TilAt Y p T := fun j v hj => cell_since (h j v hj) s
theorem TilRow.since {X Y : World} {ad : Option Addr} {l : List (List Col)} (h : TilRow X ad l) (s : Since X Y) : TilRow Y ad l :=
  ⟨h.len, fun i c hi => let ⟨a, e, hc⟩ := h.at_ i c hi; ⟨a, e, hc.since s⟩, h.l64, h.by_⟩
theorem TilAt.grew {rows : List Nat} {W W' : World} {p : Addr} {T : List Col} (h : TilAt W p T) (hg : Grew rows W W') (hp : p.block ∉ rows) : TilAt W' p T := fun j v hj => cell_grew (h j v hj) hg (by rw [add_block]; exact hp)
theorem TilRow.grew {rows : List Nat} {W W' : World} {ad : Option Addr} {l : List (List Col)} (h : TilRow W ad l) (hg : Grew rows W W') (hp : ∀ a, ad = some a → a.block ∉ rows) : TilRow W' ad l :=
  ⟨h.len, fun i c hi => let ⟨a, e, hc⟩ := h.at_ i c hi; ⟨a, e, hc.grew hg (by rw [add_block]; exact hp a e)⟩, h.l64, h.by_⟩
theorem Has.put3 {X : World} {r : Nat} {x0 x1 x2 : Value} {T : TypeId} {z : Nat × Nat} (h : Has X r (.cells #[x0, x1, x2] T z)) (a b c : Value) : Has (((X.setCell ⟨r, 0, none⟩ a).setCell ⟨r, 1, none⟩ b).setCell ⟨r, 2, none⟩ c) r (.cells #[a, b, c] T z) := by
  have := ((h.set 0 a).set 1 b).set 2 c
  simpa using this
theorem grew_put3 {rows : List Nat} {A X : World} {r : Nat} (h : Grew rows A X) (hr : r ∈ rows ∨ A.heap.size ≤ r) (a b c : Value) : Grew rows A (((X.setCell ⟨r, 0, none⟩ a).setCell ⟨r, 1, none⟩ b).setCell ⟨r, 2, none⟩ c) :=
  ((h.setCell (a := ⟨r, 0, none⟩) a hr).setCell (a := ⟨r, 1, none⟩) b hr).setCell (a := ⟨r, 2, none⟩) c hr
theorem TilRow.upto {W : World} {ad : Option Addr} {l : List (List Col)} (h : TilRow W ad l) (q : Nat) : TilRow W ad (l.take q) := by
  refine ⟨by have := h.len; rw [List.length_take]; omega, fun i c hi => ?_, fun c hc => h.l64 c (List.mem_of_mem_take hc), fun c hc => h.by_ c (List.mem_of_mem_take hc)⟩
  rw [List.getElem?_take] at hi
  split at hi
  · exact h.at_ i c hi
  · cases hi
theorem run_load25 {W : World} {p : Addr} {T : List Col} (lT : T.length = 64) (h : TilAt W p T) : (Instr.loadAt 25 (.pointer (some p))).run Try.prog W = .ok (.agg (tileA T)) W := by
  have hlen : (colsV T).length = 256 := by rw [colsV_length, lT]
  have hl : (loadCells p (colsV T).length).run Try.prog W = .ok (colsV T).toArray W := run_loadCells_list (P := Try.prog) W p (colsV T) h
  obtain ⟨i, hi⟩ : ∃ i, Try.prog.info? 25 = some i := Option.isSome_iff_exists.1 (by kernel_rfl)
  have hs : i.size = 256 := by have := size25; rw [hi] at this; simpa using this
  have hagg : (isAgg 25).run Try.prog W = .ok true W := by kernel_rfl
  have hv : (loadVar 25 p).run Try.prog W = .ok (.agg (tileA T)) W := by
    simp [loadVar, Sem.run_bind, hagg, sizeOf, typeInfo, hi, hs, ← hlen, hl]
  simp only [Instr.loadAt, Instr.sureAddr, Sem.run_bind, Sem.run_pure, Result.andThen_ok, hv]
theorem exec_til {e : Operand → Value} {x : Operand} {dst : Option Tmp} {t : TypeId} {pos : String} {af : Array Edge} {g : Option (Nat × Bool)} {w : World} {p : Addr} {T : List Col} (h : TilAt w p T) (lT : T.length = 64) (hx : e x = .pointer (some p)) :
    (execOp e ⟨dst, .load 25 x, t, pos, af, g⟩).run Try.prog w = .ok (.value (.agg (tileA T))) w := by
  have h1 := run_load25 lT h
  rw [← hx] at h1
  unfold execOp
  simp only [Sem.run_bind, h1, Result.andThen_ok, Sem.run_pure]
theorem wp_load_til {o : Oper} {a : Act} {w : World} {K : Act → World → Prop} {Q : Exit → Act → World → Prop} (x : Operand) (ho : o.op = .load 25 x) (p : Addr) (T : List Col) (lT : T.length = 64) (h : TilAt w p T) (hx : a.eval x = .pointer (some p))
    (hk : K (a.put o.dst (.agg (tileA T))) w) : o.wp Try.prog a w K Q := by
  obtain ⟨dst, op, t, pos, af, g⟩ := o
  simp only at ho; subst ho
  unfold Oper.wp
  rw [exec_til h lT hx]
  exact hk
theorem wpList_load_til {ops : Array Oper} {rest : List Oper} {o : Oper} {a : Act} {w : World} {Q : Exit → Act → World → Prop} (hgd : o.guard = none) (x : Operand) (ho : o.op = .load 25 x) (p : Addr) (T : List Col) (lT : T.length = 64) (h : TilAt w p T) (hx : a.eval x = .pointer (some p))
    (hk : wpList Try.prog ops Q rest (a.put o.dst (.agg (tileA T))) w) : wpList Try.prog ops Q (o :: rest) a w :=
  wpList_plain hgd fun _ hK => wp_load_til x ho p T lT h hx (hK _ _ hk)

/-- a row of tiles, cell by cell -/
def tilesV (l : List (List Col)) : List Value := l.flatMap colsV
theorem tilesV_length : ∀ {l : List (List Col)}, (∀ T ∈ l, T.length = 64) → (tilesV l).length = l.length * 256
  | [], _ => rfl
  | T :: l, h => by
    have ih := tilesV_length (l := l) fun T' hT' => h T' (by simp [hT'])
    have h1 := h T (by simp)
    simp only [tilesV, List.flatMap_cons, List.length_append, List.length_cons, colsV_length] at *
    omega
set_option maxRecDepth 100000 in
theorem tilesV_at : ∀ {l : List (List Col)} {i j : Nat} {T : List Col} {v : Value}, (∀ T ∈ l, T.length = 64) → l[i]? = some T → (colsV T)[j]? = some v → (tilesV l)[i * 256 + j]? = some v
  | [], i, j, T, v, _, h, _ => by simp at h
  | S :: l, 0, j, T, v, hl, h, hj => by
    simp at h; subst h
    rw [Nat.zero_mul, Nat.zero_add]
    exact (List.getElem?_append_left (List.getElem?_eq_some_iff.1 hj).1).trans hj
  | S :: l, i + 1, j, T, v, hl, h, hj => by
    have ih := tilesV_at (l := l) (fun T' hT' => hl T' (by simp [hT'])) (by simpa using h) hj
    have hS : (colsV S).length = 256 := by rw [colsV_length, hl S (by simp)]
    show (colsV S ++ tilesV l)[(i + 1) * 256 + j]? = _
    rw [List.getElem?_append_right (by omega), hS, ← ih]
    congr 1; omega
theorem tilesV_snoc (l : List (List Col)) (T : List Col) : tilesV (l ++ [T]) = tilesV l ++ colsV T := by simp [tilesV]
theorem tilesV_one (l : List (List Col)) : ∀ u ∈ tilesV l, u.oneCell' = true := by
  intro u hu
  obtain ⟨T, _, hT⟩ := List.mem_flatMap.1 hu
  exact colsV_one T u hT
theorem add_add (a : Addr) (m n : Nat) : (a.add m).add n = a.add (m + n) := by
  unfold Addr.add
  by_cases hm : m = 0
  · subst hm; simp
  · by_cases hn : n = 0
    · subst hn; simp
    · simp [hm, hn, Nat.add_assoc]
/-- the cells of a row of tiles -/
theorem til_cells {W : World} {a : Addr} {l : List (List Col)} (h : TilRow W (some a) l) : ∀ j u, (tilesV l)[j]? = some u → W.cell? (a.add j) = some u := by
  intro j u hj
  have hlt : j < l.length * 256 := by rw [← tilesV_length h.l64]; exact (List.getElem?_eq_some_iff.1 hj).1
  obtain ⟨T, hT⟩ : ∃ T, l[j / 256]? = some T := ⟨_, List.getElem?_eq_getElem (by omega)⟩
  obtain ⟨a', e, q⟩ := h.at_ _ T hT
  cases e
  have lT := h.l64 T (List.mem_of_getElem? hT)
  obtain ⟨v, hv⟩ : ∃ v, (colsV T)[j % 256]? = some v := ⟨_, List.getElem?_eq_getElem (by rw [colsV_length, lT]; omega)⟩
  have h1 := tilesV_at h.l64 hT hv
  rw [show j / 256 * 256 + j % 256 = j by omega, hj] at h1
  cases h1
  have h2 := q _ _ hv
  rwa [add_add, show j / 256 * 256 + j % 256 = j by omega] at h2
theorem til_of_own {W : World} {base E : Nat} {v : Value} {l : List (List Col)} (hl : l.length ≤ maxLen) (l64 : ∀ T ∈ l, T.length = 64) (hb : ∀ T ∈ l, ∀ d ∈ T, ByC d) (h : W.ownsRow base E 256 v l.length (tilesV l)) :
    ∃ ad cap, v = .slice ad l.length cap ∧ TilRow W ad l ∧ (ad = none → l = [] ∧ cap = 0) ∧ (∀ a, ad = some a → ∃ g, a = ⟨g, 0, none⟩ ∧ base ≤ g) ∧ l.length ≤ cap := by
  rcases h.2 with ⟨rfl, h0⟩ | ⟨g, cap, cur, rfl, hbg, hg, hcap, _, _, ht⟩
  · have : l = [] := List.length_eq_zero_iff.1 h0
    subst this
    exact ⟨none, 0, rfl, ⟨hl, fun i c hi => by simp at hi, l64, hb⟩, fun _ => ⟨rfl, rfl⟩, fun a e => (by cases e), Nat.le_refl _⟩
  · refine ⟨some ⟨g, 0, none⟩, cap, rfl, ⟨hl, fun i T hi => ⟨_, rfl, fun j u hu => ?_⟩, l64, hb⟩, fun e => (by cases e), fun a e => (by cases e; exact ⟨g, rfl, hbg⟩), hcap⟩
    have hc := h.cells (g := g) rfl
    rw [add_add]
    exact hc _ _ (tilesV_at l64 hi hu)
theorem Has.til {W : World} {b : Nat} {T : List Col} {ty : TypeId} {z : Nat × Nat} (h : Has W b (.cells (tileA T) ty z)) : TilAt W ⟨b, 0, none⟩ T := by
  intro j v hj
  rw [Addr.add_mid, Nat.zero_add, h.cell]
  simpa using hj
theorem own_since {W W' : World} {base E s n : Nat} {v : Value} {xs : List Value} (h : W.ownsRow base E s v n xs) (hs : Since W W') : W'.ownsRow base E s v n xs :=
  h.kept (row := none) ⟨hs.below.os, hs.below.tape, hs.below.output, hs.size, fun k hk _ => hs.below.block k hk⟩ (by cases v.ownBlock <;> simp)
end Go.Proofs.Ytedckelfdkfkoaa
