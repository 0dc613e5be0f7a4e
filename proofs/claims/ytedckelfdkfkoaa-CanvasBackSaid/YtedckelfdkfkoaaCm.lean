/- Maps from whole numbers to pointers; the range over a map that the call has made; a copy of a row of pointers. -/
import Derived.Test.YtedckelfdkfkoaaCk
import Derived.Test.YtedckelfdkfkoaaI
import Derived.Test.YtedckelfdkfkoaaM
import Derived.Laws.CopyRow
import Derived.Maps.RangeRun
import Derived.Maps.Keyed
namespace Go.Proofs.Ytedckelfdkfkoaa
open Go.RowKit Go.Shelf

/-- the keys of the map in With -/
abbrev natV (n : Nat) : Value := .int .i64 (n : Int)
theorem keys3 : KeyKind Try.prog 3 natV (fun n => n ≤ 16) where
  law := Maps.int_keyed Try.underlying3
  key := by
    intro n hn
    have wf : (Lit.int .i64 (n : Int)).wf = true := by
      have e1 : IntKind.i64.min = -9223372036854775808 := rfl
      have e2 : IntKind.i64.max = 9223372036854775807 := rfl
      simp only [Lit.wf, e1, e2, Bool.and_eq_true, decide_eq_true_eq]; omega
    refine ⟨.int .i64 n, ?_⟩
    simp [keyOf, mapKey, Try.underlying3, wf]
  inj := by
    intro x y _ _ h
    injection h with _ h; exact Int.ofNat_inj.1 h

section
variable {α β : Type} {P : Program} {kv : α → Value} {vv : β → Value}
theorem leftOf_mem {m : List (α × β)} {seen : Array Nat} {e : MapEntry} (h : e ∈ (leftOf (entL kv vv m).toArray seen).toList) : ∃ i p, m[i]? = some p ∧ e = ⟨kv p.1, vv p.2, i⟩ ∧ seen.contains i = false := by
  simp only [leftOf, List.filter_toArray, List.mem_filter] at h
  obtain ⟨h1, h2⟩ := h
  obtain ⟨i, hi⟩ := List.getElem?_of_mem h1
  rw [entL_at] at hi
  obtain ⟨p, hp, rfl⟩ := Option.map_eq_some_iff.1 hi
  exact ⟨i, p, hp, rfl, by simpa using h2⟩
theorem entL_born_lt {m : List (α × β)} : ∀ x ∈ (entL kv vv m).toArray.toList, x.born < m.length := by
  intro x hx
  simp only at hx
  obtain ⟨i, hi⟩ := List.getElem?_of_mem hx
  rw [entL_at] at hi
  obtain ⟨p, hp, rfl⟩ := Option.map_eq_some_iff.1 hi
  exact (List.getElem?_eq_some_iff.1 hp).1
theorem entL_borns (m : List (α × β)) : (entL kv vv m).map (·.born) = List.range m.length := by
  apply List.ext_getElem?
  intro i
  rw [List.getElem?_map, entL_at]
  by_cases h : i < m.length
  · rw [List.getElem?_eq_getElem h, List.getElem?_range h]; rfl
  · rw [List.getElem?_eq_none (by omega), List.getElem?_eq_none (by simp; omega)]; rfl
/-- THE STEP of a range over such a map. -/
theorem run_next_map {W : World} {r b : Nat} {m : List (α × β)} {seen : Array Nat} {c0 : Nat} (ty : TypeId) (hr : Has W r (.mapIter (some b) m.length seen c0)) (hb : Has W b (mapO kv vv m)) (hc : m.length ≤ c0) :
    ((∀ i, i < m.length → seen.contains i = true) ∧ (Instr.next (.pointer (some ⟨r, 0, none⟩)) false ty).run P W = .ok (.tuple #[.bool false]) W) ∨
    ∃ i p W1, m[i]? = some p ∧ seen.contains i = false ∧ (W1 = W ∨ W1 = W.drew) ∧
      (Instr.next (.pointer (some ⟨r, 0, none⟩)) false ty).run P W = .ok (.tuple #[.bool true, kv p.1, vv p.2]) (Go.ChangeMaps.setBlock W1 r (.mapIter (some b) m.length (seen.push i) m.length)) ∧
      (Instr.entry (.pointer (some ⟨r, 0, none⟩))).run P (Go.ChangeMaps.setBlock W1 r (.mapIter (some b) m.length (seen.push i) m.length)) = .ok (.tuple #[kv p.1, vv p.2]) (Go.ChangeMaps.setBlock W1 r (.mapIter (some b) m.length (seen.push i) m.length)) := by
  have hlen : (entL kv vv m).toArray.size = m.length := by simp [entL_length]
  rcases run_next_at (P := P) W ty r b m.length c0 seen (entL kv vv m).toArray m.length hr hb entL_born_lt hc with ⟨h0, h1⟩ | ⟨e, he, W1, hW, h1⟩
  · refine .inl ⟨fun i hi => ?_, h1⟩
    cases hs : seen.contains i with
    | true => rfl
    | false =>
      have : (⟨kv m[i].1, vv m[i].2, i⟩ : MapEntry) ∈ leftOf (entL kv vv m).toArray seen := by
        simp only [leftOf, List.filter_toArray, List.mem_toArray, List.mem_filter]
        refine ⟨List.mem_of_getElem? (i := i) (by rw [entL_at, List.getElem?_eq_getElem hi]; rfl), by simpa using hs⟩
      have hp := Array.size_pos_of_mem this
      omega
  · obtain ⟨i, p, hp, rfl, hs⟩ := leftOf_mem he
    refine .inr ⟨i, p, W1, hp, hs, hW, h1, ?_⟩
    have hrl := hr.lt
    have hne : r ≠ b := hr.ne hb (by unfold mapO; simp)
    have hr1 : r < W1.heap.size := by rcases hW with rfl | rfl <;> exact hrl
    have hb1 : W1.heap[b]? = some (mapO kv vv m) := by rcases hW with rfl | rfl <;> exact hb
    refine run_entry_at (P := P) _ r b m.length seen (entL kv vv m).toArray m.length ⟨kv p.1, vv p.2, i⟩ ?_ ?_ ?_ ?_
    · simp [Go.ChangeMaps.setBlock, hr1]
    · simp only [Go.ChangeMaps.setBlock]
      rw [Array.getElem?_setIfInBounds_ne hne]; exact hb1
    · exact List.mem_of_getElem? (i := i) (by rw [entL_at, hp]; rfl)
    · show ((entL kv vv m).map (·.born)).Nodup
      rw [entL_borns]; exact List.nodup_range
end
theorem Has.setBlock_same {W : World} {r : Nat} (h : r < W.heap.size) (o : Obj) : Has (Go.ChangeMaps.setBlock W r o) r o := by
  show (W.heap.setIfInBounds r o)[r]? = some o
  simp [h]
theorem Has.setBlock_other {W : World} {r k : Nat} {o' : Obj} (h : Has W k o') (o : Obj) (hne : k ≠ r) : Has (Go.ChangeMaps.setBlock W r o) k o' := by
  show (W.heap.setIfInBounds r o)[k]? = some o'
  rw [Array.getElem?_setIfInBounds_ne (Ne.symm hne)]; exact h
theorem Grew.setBlock {rows : List Nat} {A B : World} (h : Grew rows A B) {r : Nat} (o : Obj) (hr : r ∈ rows ∨ A.heap.size ≤ r) : Grew rows A (Go.ChangeMaps.setBlock B r o) :=
  ⟨h.os, h.tape, h.output, by simp only [Go.ChangeMaps.setBlock, Array.size_setIfInBounds]; exact h.size, fun k hk hn => by
    show (B.heap.setIfInBounds r o)[k]? = _
    rw [Array.getElem?_setIfInBounds_ne (by rintro rfl; rcases hr with hr | hr; exact hn hr; omega)]
    exact h.block k hk hn⟩
/-- the builtin copy of a row of pointers over a row of the same length -/
theorem wp_copy181 {o : Oper} {a : Act} {w : World} {K : Act → World → Prop} {Q : Exit → Act → World → Prop} (d s : Operand) (ho : o.op = .call { callee := .builtin .copy, args := #[d, s], argTypes := #[181, 181] })
    (g m c c' : Nat) (ad : Addr) (hd : a.eval d = .slice (some ⟨g, 0, none⟩) m c) (hs : a.eval s = .slice (some ad) m c') (cur : Array Value) (hg : Has w g (.cells cur 183 (0, 0))) (hcur : cur.size = m) (ps : List Nat) (hps : ps.length = m)
    (hsrc : ∀ (j p : Nat), ps[j]? = some p → w.cell? (ad.add j) = some (ptrV p)) (h : K (a.put o.dst (goInt m)) (w.setRow g (ps.map ptrV).toArray)) : o.wp Try.prog a w K Q := by
  have hsz : (Try.prog.info? 183).map (·.size) = some 1 := by kernel_rfl
  have hrun := run_copy_row (P := Try.prog) w 181 181 o.type 183 g 0 m c ad m c' cur 183 (ps.map ptrV) (by kernel_rfl) hsz hg (by simp [hps]) (fun j v hj => by
    rw [List.getElem?_map] at hj
    obtain ⟨p, hp, rfl⟩ := Option.map_eq_some_iff.1 hj
    exact hsrc j p hp) (by simp [hps, hcur]) (fun v hv => by obtain ⟨p, _, rfl⟩ := List.mem_map.1 hv; rfl)
  have e1 : (cur.toList.take 0 ++ ps.map ptrV ++ cur.toList.drop (0 + (ps.map ptrV).length)).toArray = (ps.map ptrV).toArray := by
    rw [List.take_zero, List.nil_append, List.drop_eq_nil_of_le (by simp [hcur, hps]), List.append_nil]
  rw [e1, List.length_map, hps] at hrun
  unfold Oper.wp execOp
  simp only [ho, resolve, invoke, builtin, Sem.run_bind, Sem.run_pure, Result.andThen_ok, List.map_toArray, List.map_cons, List.map_nil, hd, hs, hrun]
  exact h
end Go.Proofs.Ytedckelfdkfkoaa
