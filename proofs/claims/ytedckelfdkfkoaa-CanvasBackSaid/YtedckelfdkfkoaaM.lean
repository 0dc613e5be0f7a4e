/- Maps that the call has made: the entries in the order in which they came. No program in sight. -/
import Derived.Test.YtedckelfdkfkoaaL
import Derived.Maps.Keyed
import Derived.MapKept
namespace Go.Proofs.Ytedckelfdkfkoaa
open Go.RowKit

/-- A type of keys, as values. -/
structure KeyKind {α : Type} (P : Program) (k : TypeId) (kv : α → Value) (ok : α → Prop) : Prop where
  law : Maps.Keyed P k
  key : ∀ x, ok x → ∃ l, keyOf P k (kv x) = some l
  inj : ∀ x y, ok x → ok y → kv x = kv y → x = y

section
variable {α β : Type} {P : Program} {k : TypeId} {kv : α → Value} {vv : β → Value} {ok : α → Prop}
/-- the entries of such a map -/
def entL (kv : α → Value) (vv : β → Value) (m : List (α × β)) : List MapEntry := m.zipIdx.map fun p => ⟨kv p.1.1, vv p.1.2, p.2⟩
def mapO (kv : α → Value) (vv : β → Value) (m : List (α × β)) : Obj := .map (entL kv vv m).toArray m.length
theorem entL_length (m : List (α × β)) : (entL kv vv m).length = m.length := by simp [entL]
theorem entL_at (m : List (α × β)) (i : Nat) : (entL kv vv m)[i]? = (m[i]?).map fun p => ⟨kv p.1, vv p.2, i⟩ := by
  unfold entL
  rw [List.getElem?_map, List.getElem?_zipIdx]
  cases m[i]? <;> simp
theorem entL_snoc (m : List (α × β)) (p : α × β) : entL kv vv (m ++ [p]) = entL kv vv m ++ [⟨kv p.1, vv p.2, m.length⟩] := by
  simp [entL, List.zipIdx_append]
theorem entL_set (m : List (α × β)) (i : Nat) (p : α × β) : (entL kv vv m).set i ⟨kv p.1, vv p.2, i⟩ = entL kv vv (m.set i p) := by
  apply List.ext_getElem?
  intro j
  rw [entL_at, List.getElem?_set, List.getElem?_set, entL_length]
  by_cases h : i = j
  · subst h
    by_cases hl : i < m.length <;> simp [hl]
  · simp [h, entL_at]

variable [DecidableEq α]
def lkp (m : List (α × β)) (x : α) : Option β := (m.find? fun p => decide (p.1 = x)).map Prod.snd
theorem lkp_none {m : List (α × β)} {x : α} (h : x ∉ m.map Prod.fst) : lkp m x = none := by
  unfold lkp
  rw [List.find?_eq_none.2]
  · rfl
  · intro p hp hx
    exact h (List.mem_map.2 ⟨p, hp, by simpa using hx⟩)
theorem lkp_some {m : List (α × β)} (nd : (m.map Prod.fst).Nodup) {x : α} {v : β} {j : Nat} (h : m[j]? = some (x, v)) : lkp m x = some v := by
  unfold lkp
  induction m generalizing j with
  | nil => simp at h
  | cons p m ih =>
    simp only [List.map_cons, List.nodup_cons] at nd
    cases j with
    | zero =>
      simp at h; subst h
      simp
    | succ j =>
      simp at h
      have hne : p.1 ≠ x := by
        rintro rfl
        exact nd.1 (List.mem_map.2 ⟨(p.1, v), List.mem_of_getElem? h, rfl⟩)
      rw [List.find?_cons_of_neg (by simpa using hne)]
      exact ih nd.2 h

omit [DecidableEq α] in
theorem find_map (KK : KeyKind P k kv ok) {m : List (α × β)} (hm : ∀ p ∈ m, ok p.1) {x : α} (hx : ok x) (w : World) :
    ((Instr.findKey k (kv x) (entL kv vv m)).run P w = .ok none w ∧ x ∉ m.map Prod.fst) ∨ ∃ j v, (Instr.findKey k (kv x) (entL kv vv m)).run P w = .ok (some (j, vv v)) w ∧ m[j]? = some (x, v) := by
  obtain ⟨lx, hlx⟩ := KK.key x hx
  rcases KK.law.find w hlx (entL kv vv m) (fun e he => by
    obtain ⟨i, hi⟩ := List.getElem?_of_mem he
    rw [entL_at] at hi
    obtain ⟨p, hp, rfl⟩ := Option.map_eq_some_iff.1 hi
    exact KK.key p.1 (hm p (List.mem_of_getElem? hp))) with ⟨h1, h2⟩ | ⟨j, e, h1, h2, h3⟩
  · refine .inl ⟨h1, fun hmem => ?_⟩
    obtain ⟨p, hp, rfl⟩ := List.mem_map.1 hmem
    obtain ⟨i, hi⟩ := List.getElem?_of_mem hp
    exact h2 ⟨kv p.1, vv p.2, i⟩ (List.mem_of_getElem? (i := i) (by rw [entL_at, hi]; rfl)) rfl
  · rw [entL_at] at h2
    obtain ⟨p, hp, rfl⟩ := Option.map_eq_some_iff.1 h2
    have : p.1 = x := KK.inj _ _ (hm p (List.mem_of_getElem? hp)) hx h3
    subst this
    exact .inr ⟨j, p.2, h1, hp⟩

variable {t e : TypeId} {W : World} {b : Nat} {m : List (α × β)}
theorem map_look (KK : KeyKind P k kv ok) (ht : P.underlying t = some (.map k e)) {z : Value} (hz : (zeroValue e).run P W = .ok z W) (h : Has W b (mapO kv vv m)) (hm : ∀ p ∈ m, ok p.1) (nd : (m.map Prod.fst).Nodup) {x : α} (hx : ok x) :
    (Instr.lookup t (.map (some b)) (kv x) false).run P W = .ok ((lkp m x).elim z vv) W := by
  obtain ⟨lx, hlx⟩ := KK.key x hx
  have hg : (getObj b).run P W = .ok (.map (entL kv vv m).toArray m.length) W := MapKept.run_getObj_map h
  rcases find_map (vv := vv) KK hm hx W with ⟨h1, h2⟩ | ⟨j, v, h1, h2⟩
  · rw [lkp_none h2]
    simp [Instr.lookup, run_underlying ht, hg, KK.law.check W _ hlx, h1, hz, Result.andThen]
  · rw [lkp_some nd h2]
    simp [Instr.lookup, run_underlying ht, hg, KK.law.check W _ hlx, h1, Result.andThen]
theorem map_entry_new (KK : KeyKind P k kv ok) (ht : P.underlying t = some (.map k e)) {z : β} (hz : (zeroValue e).run P W = .ok (vv z) W) (h : Has W b (mapO kv vv m)) (hm : ∀ p ∈ m, ok p.1) {x : α} (hx : ok x) (hn : x ∉ m.map Prod.fst) :
    (Instr.mapEntry t (.map (some b)) (kv x)).run P W = .ok (.tuple #[vv z, goInt m.length]) (W.putObj b (mapO kv vv (m ++ [(x, z)]))) := by
  have _ : DecidableEq α := inferInstance
  obtain ⟨lx, hlx⟩ := KK.key x hx
  have hg : (getObj b).run P W = .ok (.map (entL kv vv m).toArray m.length) W := MapKept.run_getObj_map h
  have hso : ∀ o, (setObj b o).run P W = .ok () (W.putObj b o) := fun o => MapKept.run_setObj_map o h
  rcases find_map (vv := vv) KK hm hx W with ⟨h1, _⟩ | ⟨j, v, h1, h2⟩
  · have e : entL kv vv m ++ [⟨kv x, vv z, m.length⟩] = entL kv vv (m ++ [(x, z)]) := by rw [entL_snoc]
    simp [Instr.mapEntry, run_underlying ht, hg, KK.law.check W _ hlx, h1, hz, hso, Result.andThen, e, mapO]
  · exact absurd (List.mem_map.2 ⟨(x, v), List.mem_of_getElem? h2, rfl⟩) hn
theorem map_entry_old (KK : KeyKind P k kv ok) (ht : P.underlying t = some (.map k e)) (h : Has W b (mapO kv vv m)) (hm : ∀ p ∈ m, ok p.1) (nd : (m.map Prod.fst).Nodup) {x : α} {v : β} {j : Nat} (hj : m[j]? = some (x, v)) :
    (Instr.mapEntry t (.map (some b)) (kv x)).run P W = .ok (.tuple #[vv v, goInt j]) (W.putObj b (mapO kv vv m)) := by
  have hx : ok x := hm _ (List.mem_of_getElem? hj)
  obtain ⟨lx, hlx⟩ := KK.key x hx
  have hg : (getObj b).run P W = .ok (.map (entL kv vv m).toArray m.length) W := MapKept.run_getObj_map h
  have hso : ∀ o, (setObj b o).run P W = .ok () (W.putObj b o) := fun o => MapKept.run_setObj_map o h
  rcases find_map (vv := vv) KK hm hx W with ⟨_, h2⟩ | ⟨i, v', h1, h2⟩
  · exact absurd (List.mem_map.2 ⟨(x, v), List.mem_of_getElem? hj, rfl⟩) h2
  · have hv : v' = v := by have := (lkp_some nd h2).symm.trans (lkp_some nd hj); exact Option.some.inj this
    subst hv
    have hij : i = j := by
      have a1 : (m.map Prod.fst)[i]? = some x := by rw [List.getElem?_map, h2]; rfl
      have a2 : (m.map Prod.fst)[j]? = some x := by rw [List.getElem?_map, hj]; rfl
      exact (List.getElem?_inj (List.getElem?_eq_some_iff.1 a1).1 nd).1 (a1.trans a2.symm)
    subst hij
    have he : (entL kv vv m)[i]? = some ⟨kv x, vv v', i⟩ := by rw [entL_at, h2]; rfl
    have em : (entL kv vv m).modify i (fun e => { e with key := kv x }) = entL kv vv m := by
      apply List.ext_getElem?
      intro q
      rw [List.getElem?_modify]
      by_cases hq : i = q
      · subst hq; rw [he]; simp
      · simp [hq]
    simp [Instr.mapEntry, run_underlying ht, hg, KK.law.check W _ hlx, h1, he, KK.law.stays W hlx, hso, Result.andThen, em, mapO]
omit [DecidableEq α] in
theorem map_entry_store (h : Has W b (mapO kv vv m)) {j : Nat} {p : α × β} (hj : m[j]? = some p) (v : β) :
    (Instr.entryStore t (.map (some b)) (goInt j) (vv v)).run P W = .ok () (W.putObj b (mapO kv vv (m.set j (p.1, v)))) := by
  have hg : (getObj b).run P W = .ok (.map (entL kv vv m).toArray m.length) W := MapKept.run_getObj_map h
  have hso : ∀ o, (setObj b o).run P W = .ok () (W.putObj b o) := fun o => MapKept.run_setObj_map o h
  have hlt : j < m.length := (List.getElem?_eq_some_iff.1 hj).1
  have he : (entL kv vv m)[j]? = some ⟨kv p.1, vv p.2, j⟩ := by rw [entL_at, hj]; rfl
  have hf : (entL kv vv m).findIdx? (fun e => ((e.born : Nat) : Int) == ((j : Nat) : Int)) = some j := by
    rw [List.findIdx?_eq_some_iff_getElem]
    refine ⟨by rw [entL_length]; exact hlt, ?_, fun q hq => ?_⟩
    · rw [List.getElem?_eq_getElem (by rw [entL_length]; exact hlt)] at he
      rw [Option.some.inj he]; simp
    · have hql : q < (entL kv vv m).length := by rw [entL_length]; omega
      have hqe := entL_at (kv := kv) (vv := vv) m q
      rw [List.getElem?_eq_getElem hql, List.getElem?_eq_getElem (by omega)] at hqe
      simp only [Option.map_some, Option.some.injEq] at hqe
      rw [hqe]; simp; omega
  have em : (entL kv vv m).modify j (fun e => { e with val := vv v }) = entL kv vv (m.set j (p.1, v)) := by
    rw [← entL_set]
    apply List.ext_getElem?
    intro q
    rw [List.getElem?_modify, List.getElem?_set, entL_length]
    by_cases hq : j = q
    · subst hq; rw [he]; simp [hlt]
    · simp [hq]
  simp [Instr.entryStore, hg, goInt, asInt, asIntOf, hf, hso, Result.andThen, em, mapO]
theorem map_update_new (KK : KeyKind P k kv ok) (ht : P.underlying t = some (.map k e)) (h : Has W b (mapO kv vv m)) (hm : ∀ p ∈ m, ok p.1) {x : α} (hx : ok x) (hn : x ∉ m.map Prod.fst) (v : β) :
    (Instr.mapUpdate t (.map (some b)) (kv x) (vv v)).run P W = .ok () (W.putObj b (mapO kv vv (m ++ [(x, v)]))) := by
  have _ : DecidableEq α := inferInstance
  obtain ⟨lx, hlx⟩ := KK.key x hx
  have hg : (getObj b).run P W = .ok (.map (entL kv vv m).toArray m.length) W := MapKept.run_getObj_map h
  have hso : ∀ o, (setObj b o).run P W = .ok () (W.putObj b o) := fun o => MapKept.run_setObj_map o h
  rcases find_map (vv := vv) KK hm hx W with ⟨h1, _⟩ | ⟨j, v, h1, h2⟩
  · have e : entL kv vv m ++ [⟨kv x, vv v, m.length⟩] = entL kv vv (m ++ [(x, v)]) := by rw [entL_snoc]
    simp [Instr.mapUpdate, run_underlying ht, hg, KK.law.check W _ hlx, h1, hso, Result.andThen, e, mapO]
  · exact absurd (List.mem_map.2 ⟨(x, v), List.mem_of_getElem? h2, rfl⟩) hn
end
end Go.Proofs.Ytedckelfdkfkoaa
