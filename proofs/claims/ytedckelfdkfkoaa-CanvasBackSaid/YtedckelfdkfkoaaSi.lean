/- Worlds since one: nothing that was there has turned. No program in sight. -/
import Derived.Test.YtedckelfdkfkoaaL
namespace Go.Proofs.Ytedckelfdkfkoaa
open Go.RowKit

/-- Nothing that X holds has turned in Y. -/
def Since (X Y : World) : Prop := Below X.heap.size X Y
theorem Since.refl (X : World) : Since X X := Below.refl _ _
theorem Since.size {X Y : World} (h : Since X Y) : X.heap.size ≤ Y.heap.size := Below.size h
theorem Since.below {X Y : World} (h : Since X Y) : Below X.heap.size X Y := h
theorem Since.step {X Y Z : World} (h : Since X Y) (b : Below Y.heap.size Y Z) : Since X Z := Below.trans h (b.mono h.size)
theorem Since.trans {X Y Z : World} (h : Since X Y) (k : Since Y Z) : Since X Z := h.step k
theorem Since.drew {X Y : World} (h : Since X Y) : Since X Y.drew := Below.drew h
theorem Since.alloc {X Y : World} (h : Since X Y) (o : Obj) : Since X (Y.alloc o) := Below.alloc h h.size o
theorem Since.grew {X Y Z : World} {rows : List Nat} (h : Since X Y) (g : Grew rows Y Z) (hr : ∀ r ∈ rows, X.heap.size ≤ r) : Since X Z := Below.trans h (g.below h.size hr)
theorem Since.setCell {X Y : World} (h : Since X Y) {a : Addr} (v : Value) (ha : X.heap.size ≤ a.block) : Since X (Y.setCell a v) := Below.setCell h ha v
theorem Since.setRow {X Y : World} (h : Since X Y) {b : Nat} (hb : X.heap.size ≤ b) (cs : Array Value) : Since X (Y.setRow b cs) := below_setRow h hb cs
theorem Since.from {w X Y : World} (b : Below w.heap.size w X) (h : Since X Y) : Below w.heap.size w Y := b.trans (Below.mono h b.size)
theorem Since.grown1 {X Y Z : World} {row : Option Nat} (h : Since X Y) (g : Y.grownBy Z row) (hr : ∀ k, row = some k → X.heap.size ≤ k) : Since X Z := Below.grown h g h.size hr
theorem Has.since {X Y : World} {r : Nat} {o : Obj} (h : Has X r o) (s : Since X Y) : Has Y r o := Has.below h s h.lt
theorem Has.rowS {X : World} {n : Nat} {A : Array Value} {ty : TypeId} {z : Nat × Nat} (h : Has X n (.cells A ty z)) : ∀ Y, Since X Y → rowAt Y n = some A := fun _ hb => (h.since hb).row
theorem PixAt.since {X Y : World} {n k : Nat} {c : Col} (h : PixAt X n k c) (s : Since X Y) : PixAt Y n k c := by
  obtain ⟨a, b, c', d⟩ := h
  have f := fun {p : Addr} {v : Value} (e : X.cell? p = some v) => (Below.cell s (cell_lt e)).trans e
  exact ⟨f a, f b, f c', f d⟩
theorem ColAt.since {X Y : World} {p : Addr} {c : Col} (h : ColAt X p c) (s : Since X Y) : ColAt Y p c := h.below s
theorem ColRow.since {X Y : World} {ad : Option Addr} {l : List Col} (h : ColRow X ad l) (s : Since X Y) : ColRow Y ad l := h.below s
theorem PtAt.since {X Y : World} {p : Addr} {c : Int × Int} (h : PtAt X p c) (s : Since X Y) : PtAt Y p c := h.below s
theorem PtRow.since {X Y : World} {ad : Option Addr} {l : List (Int × Int)} (h : PtRow X ad l) (s : Since X Y) : PtRow Y ad l := h.below s
theorem cell_since {X Y : World} {p : Addr} {v : Value} (h : X.cell? p = some v) (s : Since X Y) : Y.cell? p = some v := (Below.cell s (cell_lt h)).trans h
theorem ColRow.upto {W : World} {ad : Option Addr} {l : List Col} (h : ColRow W ad l) (q : Nat) : ColRow W ad (l.take q) := by
  refine ⟨by have := h.len; rw [List.length_take]; omega, fun i c hi => ?_, fun c hc => h.by_ c (List.mem_of_mem_take hc)⟩
  rw [List.getElem?_take] at hi
  split at hi
  · exact h.at_ i c hi
  · cases hi
end Go.Proofs.Ytedckelfdkfkoaa
