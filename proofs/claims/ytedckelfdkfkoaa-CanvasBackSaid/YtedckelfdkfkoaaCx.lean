/- The state of the loop over the dots in With. No program in sight. -/
import Derived.Test.YtedckelfdkfkoaaCv
import Derived.Test.YtedckelfdkfkoaaM
namespace Go.Proofs.Ytedckelfdkfkoaa
open Go.RowKit

abbrev natW (n : Nat) : Value := .int .i64 (n : Int)
/-- the tiles of one's own are in blocks of their own, by the map -/
structure WSt (c : Cv) (X : World) (bm : Nat) (Tk : List (List Col)) (m : List (Nat × Nat)) (W : World) : Prop where
  map_ : Has W bm (mapO natW ptrV m)
  grew : Grew [bm] X W
  low : bm < X.heap.size
  nodup : (m.map Prod.fst).Nodup
  keys : ∀ e ∈ m, e.1 < c.w * c.h
  fresh : ∀ e ∈ m, X.heap.size ≤ e.2
  pnodup : (m.map Prod.snd).Nodup
  tiles : ∀ (n p : Nat) (T : List Col), (n, p) ∈ m → Tk[n]? = some T → Has W p (.cells (tileA T) 25 (0, 0))
  rest : ∀ n, n < c.w * c.h → n ∉ m.map Prod.fst → Tk[n]? = c.Ts[n]?
  len : Tk.length = c.w * c.h
theorem WSt.start {c : Cv} {X : World} {bm : Nat} (ok : c.Ok) (h : Has X bm (mapO natW ptrV [])) : WSt c X bm c.Ts [] X :=
  ⟨h, Grew.refl _ _, h.lt, by simp, by simp, by simp, by simp, by simp, fun _ _ _ => rfl, ok.nt⟩
theorem WSt.since {c : Cv} {X W W' : World} {bm : Nat} {Tk : List (List Col)} {m : List (Nat × Nat)} (h : WSt c X bm Tk m W) (s : Since W W') : WSt c X bm Tk m W' :=
  ⟨h.map_.since s, h.grew.trans (below_grew s _), h.low, h.nodup, h.keys, h.fresh, h.pnodup, fun n p T hm hT => (h.tiles n p T hm hT).since s, h.rest, h.len⟩
theorem WSt.add {c : Cv} {X W : World} {bm : Nat} {Tk : List (List Col)} {m : List (Nat × Nat)} (h : WSt c X bm Tk m W) {n p : Nat} {T : List Col} (hn : n < c.w * c.h) (hk : n ∉ m.map Prod.fst) (hT : Tk[n]? = some T)
    (hp : Has W p (.cells (tileA T) 25 (0, 0))) (hx : X.heap.size ≤ p) (hnew : p ∉ m.map Prod.snd) : WSt c X bm Tk (m ++ [(n, p)]) (W.putObj bm (mapO natW ptrV (m ++ [(n, p)]))) := by
  have hlow := h.low
  refine ⟨?_, h.grew.putObj _ (.inl (by simp)), h.low, ?_, ?_, ?_, ?_, ?_, ?_, h.len⟩
  · exact World.putObj_heap_same (h.map_.lt)
  · rw [List.map_append, List.nodup_append]
    refine ⟨h.nodup, by simp, fun a ha b hb => ?_⟩
    simp at hb; subst hb
    rintro rfl; exact hk ha
  · intro e he
    rcases List.mem_append.1 he with he | he
    · exact h.keys e he
    · simp at he; subst he; exact hn
  · intro e he
    rcases List.mem_append.1 he with he | he
    · exact h.fresh e he
    · simp at he; subst he; exact hx
  · rw [List.map_append, List.nodup_append]
    refine ⟨h.pnodup, by simp, fun a ha b hb => ?_⟩
    simp at hb; subst hb
    rintro rfl; exact hnew ha
  · intro n' p' T' he hT'
    rcases List.mem_append.1 he with he | he
    · exact (h.tiles n' p' T' he hT').putOther _ (by have := h.fresh _ he; simp only [] at this; omega)
    · simp at he
      obtain ⟨rfl, rfl⟩ := he
      rw [hT] at hT'; cases hT'
      exact hp.putOther _ (by omega)
  · intro n' hn' hk'
    rw [List.map_append, List.mem_append] at hk'
    exact h.rest n' hn' (fun hm => hk' (.inl hm))
theorem WSt.put {c : Cv} {X W : World} {bm : Nat} {Tk : List (List Col)} {m : List (Nat × Nat)} (h : WSt c X bm Tk m W) {n p : Nat} {T : List Col} (hm : (n, p) ∈ m) (hT : Tk[n]? = some T) (f : List Col → List Col) :
    WSt c X bm (Tk.modify n f) m (W.setRow p (tileA (f T))) := by
  have hp := h.fresh _ hm
  simp only [] at hp
  have hlow := h.low
  refine ⟨h.map_.setRow_other _ (by omega), h.grew.setRow _ (.inr hp), h.low, h.nodup, h.keys, h.fresh, h.pnodup, ?_, ?_, by rw [List.length_modify]; exact h.len⟩
  · intro n' p' T' he hT'
    rw [List.getElem?_modify] at hT'
    by_cases hn : n = n'
    · subst hn
      rw [hT] at hT'
      simp at hT'
      subst hT'
      obtain ⟨i, hi⟩ := List.getElem?_of_mem hm
      obtain ⟨j, hj⟩ := List.getElem?_of_mem he
      have e1 : (m.map Prod.fst)[i]? = some n := by rw [List.getElem?_map, hi]; rfl
      have e2 : (m.map Prod.fst)[j]? = some n := by rw [List.getElem?_map, hj]; rfl
      have hij := (List.getElem?_inj (List.getElem?_eq_some_iff.1 e1).1 h.nodup).1 (e1.trans e2.symm)
      subst hij
      rw [hi] at hj; cases hj
      exact (h.tiles n p T hm hT).setRow _
    · obtain ⟨T'', hT'', rfl⟩ := Option.map_eq_some_iff.1 hT'
      rw [if_neg hn]
      refine (h.tiles n' p' T'' he hT'').setRow_other _ ?_
      rintro rfl
      obtain ⟨i, hi⟩ := List.getElem?_of_mem hm
      obtain ⟨j, hj⟩ := List.getElem?_of_mem he
      have e1 : (m.map Prod.snd)[i]? = some p' := by rw [List.getElem?_map, hi]; rfl
      have e2 : (m.map Prod.snd)[j]? = some p' := by rw [List.getElem?_map, hj]; rfl
      have hij := (List.getElem?_inj (List.getElem?_eq_some_iff.1 e1).1 h.pnodup).1 (e1.trans e2.symm)
      subst hij
      rw [hi] at hj; cases hj
      exact hn rfl
  · intro n' hn' hk'
    rw [List.getElem?_modify]
    have hne : n ≠ n' := by rintro rfl; exact hk' (List.mem_map.2 ⟨(n, p), hm, rfl⟩)
    have := h.rest n' hn' hk'
    rw [this]
    simp [hne]

theorem nodup_sub {α : Type} [DecidableEq α] : ∀ {L M : List α}, L.Nodup → (∀ c ∈ L, c ∈ M) → L.length ≤ M.length
  | [], _, _, _ => by simp
  | c :: L, M, h, hs => by
    obtain ⟨h1, h2⟩ := List.nodup_cons.1 h
    have hc := hs c (by simp)
    have := nodup_sub (M := M.erase c) h2 fun d hd => by
      have hne : d ≠ c := by rintro rfl; exact h1 hd
      exact (List.mem_erase_of_ne hne).2 (hs d (by simp [hd]))
    rw [List.length_erase_of_mem hc] at this
    have := List.length_pos_of_mem hc
    simp only [List.length_cons]; omega
/-- which entries have been met -/
structure SeenOk (len n : Nat) (seen : Array Nat) : Prop where
  nd : seen.toList.Nodup
  lt : ∀ i ∈ seen.toList, i < len
  sum : n + seen.size = len
theorem SeenOk.start (len : Nat) : SeenOk len len #[] := ⟨by simp, by simp, by simp⟩
theorem SeenOk.push {len n i : Nat} {seen : Array Nat} (h : SeenOk len n seen) (hi : i < len) (hs : seen.contains i = false) : ∃ n', n = n' + 1 ∧ SeenOk len n' (seen.push i) := by
  have hni : i ∉ seen.toList := by simpa using hs
  have nd : (seen.push i).toList.Nodup := by
    rw [Array.toList_push, List.nodup_append]
    refine ⟨h.nd, by simp, fun a ha b hb => ?_⟩
    simp at hb; subst hb
    rintro rfl; exact hni ha
  have lt : ∀ x ∈ (seen.push i).toList, x < len := by
    intro x hx
    rw [Array.toList_push, List.mem_append] at hx
    rcases hx with hx | hx
    · exact h.lt x hx
    · simp at hx; subst hx; exact hi
  have hle := nodup_sub (M := List.range len) nd fun x hx => List.mem_range.2 (lt x hx)
  rw [List.length_range, Array.toList_push, List.length_append] at hle
  have hsz : seen.toList.length = seen.size := by simp
  have := h.sum
  simp only [List.length_cons, List.length_nil] at hle
  exact ⟨n - 1, by omega, ⟨nd, lt, by rw [Array.size_push]; omega⟩⟩

/-- the pointer at a place in the end -/
def endP (c : Cv) (Tk : List (List Col)) (m : List (Nat × Nat)) (j : Nat) : Nat := match m.find? (fun e => e.1 = j) with | some e => if Tk[j]? = c.Ts[j]? then c.ps.getD j 0 else e.2 | none => c.ps.getD j 0
theorem find_key {m : List (Nat × Nat)} (nd : (m.map Prod.fst).Nodup) {n p : Nat} (h : (n, p) ∈ m) : m.find? (fun e => e.1 = n) = some (n, p) := by
  induction m with
  | nil => simp at h
  | cons e m ih =>
    simp only [List.map_cons, List.nodup_cons] at nd
    rcases List.mem_cons.1 h with rfl | h
    · simp
    · have hne : e.1 ≠ n := by rintro rfl; exact nd.1 (List.mem_map.2 ⟨(e.1, p), h, rfl⟩)
      rw [List.find?_cons_of_neg (by simpa using hne)]
      exact ih nd.2 h
theorem find_none {m : List (Nat × Nat)} {n : Nat} (h : n ∉ m.map Prod.fst) : m.find? (fun e => e.1 = n) = none := by
  rw [List.find?_eq_none]
  intro e he hx
  exact h (List.mem_map.2 ⟨e, he, by simpa using hx⟩)
theorem endP_in {c : Cv} {Tk : List (List Col)} {m : List (Nat × Nat)} (nd : (m.map Prod.fst).Nodup) {n p : Nat} (h : (n, p) ∈ m) : endP c Tk m n = if Tk[n]? = c.Ts[n]? then c.ps.getD n 0 else p := by
  unfold endP; rw [find_key nd h]
theorem endP_out {c : Cv} {Tk : List (List Col)} {m : List (Nat × Nat)} {n : Nat} (h : n ∉ m.map Prod.fst) : endP c Tk m n = c.ps.getD n 0 := by unfold endP; rw [find_none h]

/-- the row of the new canvas while the map is gone through -/
def OutSt (c : Cv) (Tk : List (List Col)) (m : List (Nat × Nat)) (go : Nat) (seen : Array Nat) (W : World) : Prop :=
  ∃ cs : Array Value, Has W go (.cells cs 183 (0, 0)) ∧ cs.size = c.w * c.h ∧ ∀ j, j < c.w * c.h → cs[j]? = some (ptrV (endP c Tk m j)) ∨ ((∃ i p, m[i]? = some (j, p) ∧ seen.contains i = false) ∧ cs[j]? = some (ptrV (c.ps.getD j 0)))
theorem OutSt.start {c : Cv} {Tk : List (List Col)} {m : List (Nat × Nat)} {go : Nat} {W : World} (ok : c.Ok) (h : Has W go (.cells (c.ps.map ptrV).toArray 183 (0, 0))) : OutSt c Tk m go #[] W := by
  refine ⟨_, h, by simp [ok.np], fun j hj => ?_⟩
  have hc : (c.ps.map ptrV).toArray[j]? = some (ptrV (c.ps.getD j 0)) := by
    rw [List.getElem?_toArray, List.getElem?_map, List.getD_eq_getElem?_getD, List.getElem?_eq_getElem (by rw [ok.np]; exact hj)]; rfl
  by_cases hk : j ∈ m.map Prod.fst
  · obtain ⟨e, he, rfl⟩ := List.mem_map.1 hk
    obtain ⟨i, hi⟩ := List.getElem?_of_mem he
    exact .inr ⟨⟨i, e.2, hi, by simp⟩, hc⟩
  · exact .inl (by rw [endP_out hk]; exact hc)
theorem OutSt.has {c : Cv} {Tk : List (List Col)} {m : List (Nat × Nat)} {go : Nat} {seen : Array Nat} {W W' : World} (h : OutSt c Tk m go seen W) (hk : ∀ o, Has W go o → Has W' go o) : OutSt c Tk m go seen W' := by
  obtain ⟨cs, h1, h2, h3⟩ := h
  exact ⟨cs, hk _ h1, h2, h3⟩
theorem OutSt.cell {c : Cv} {Tk : List (List Col)} {m : List (Nat × Nat)} {go : Nat} {seen : Array Nat} {W : World} (h : OutSt c Tk m go seen W) {j : Nat} (hj : j < c.w * c.h) : (∃ v, W.cell? ⟨go, j, none⟩ = some v) ∧ W.frozen? ⟨go, j, none⟩ = false := by
  obtain ⟨cs, h1, h2, _⟩ := h
  exact ⟨⟨cs[j]'(by omega), (h1.cell j).trans (Array.getElem?_eq_getElem (by omega))⟩, h1.free j⟩
/-- an entry whose tile is another one: its pointer is stored -/
theorem OutSt.store {c : Cv} {Tk : List (List Col)} {m : List (Nat × Nat)} {go : Nat} {seen : Array Nat} {W : World} (h : OutSt c Tk m go seen W) (nd : (m.map Prod.fst).Nodup) {i n p : Nat} (hi : m[i]? = some (n, p)) (hn : n < c.w * c.h) (hd : Tk[n]? ≠ c.Ts[n]?) :
    OutSt c Tk m go (seen.push i) (W.setCell ⟨go, n, none⟩ (ptrV p)) := by
  obtain ⟨cs, h1, h2, h3⟩ := h
  refine ⟨_, h1.set n _, by simp [h2], fun j hj => ?_⟩
  by_cases hjn : j = n
  · subst hjn
    left
    rw [Array.getElem?_setIfInBounds_self_of_lt (by omega), endP_in nd (List.mem_of_getElem? hi), if_neg hd]
  · rw [Array.getElem?_setIfInBounds_ne (Ne.symm hjn)]
    rcases h3 j hj with h | ⟨⟨i', p', h4, h5⟩, h6⟩
    · exact .inl h
    · refine .inr ⟨⟨i', p', h4, ?_⟩, h6⟩
      have : i' ≠ i := by rintro rfl; rw [hi] at h4; cases h4; exact hjn rfl
      have h6' : i' ∉ seen := by simpa using h5
      simp [h6', this]
/-- an entry whose tile is the same -/
theorem OutSt.skip {c : Cv} {Tk : List (List Col)} {m : List (Nat × Nat)} {go : Nat} {seen : Array Nat} {W : World} (h : OutSt c Tk m go seen W) (nd : (m.map Prod.fst).Nodup) {i n p : Nat} (hi : m[i]? = some (n, p)) (hd : Tk[n]? = c.Ts[n]?) :
    OutSt c Tk m go (seen.push i) W := by
  obtain ⟨cs, h1, h2, h3⟩ := h
  refine ⟨cs, h1, h2, fun j hj => ?_⟩
  rcases h3 j hj with h | ⟨⟨i', p', h4, h5⟩, h6⟩
  · exact .inl h
  · by_cases hjn : j = n
    · subst hjn
      left
      rw [endP_in nd (List.mem_of_getElem? hi), if_pos hd]; exact h6
    · refine .inr ⟨⟨i', p', h4, ?_⟩, h6⟩
      have : i' ≠ i := by rintro rfl; rw [hi] at h4; cases h4; exact hjn rfl
      have h6' : i' ∉ seen := by simpa using h5
      simp [h6', this]
theorem OutSt.done {c : Cv} {Tk : List (List Col)} {m : List (Nat × Nat)} {go : Nat} {seen : Array Nat} {W : World} (h : OutSt c Tk m go seen W) (hs : ∀ i, i < m.length → seen.contains i = true) :
    ∃ cs : Array Value, Has W go (.cells cs 183 (0, 0)) ∧ ∀ j, j < c.w * c.h → cs[j]? = some (ptrV (endP c Tk m j)) := by
  obtain ⟨cs, h1, _, h3⟩ := h
  refine ⟨cs, h1, fun j hj => ?_⟩
  rcases h3 j hj with h | ⟨⟨i, p, h4, h5⟩, _⟩
  · exact h
  · rw [hs i (List.getElem?_eq_some_iff.1 h4).1] at h5; cases h5
/-- the canvas in the end -/
def endC (c : Cv) (Tk : List (List Col)) (m : List (Nat × Nat)) : Cv := { w := c.w, h := c.h, ps := (List.range (c.w * c.h)).map (endP c Tk m), Ts := Tk }
theorem endC_ok {c : Cv} {Tk : List (List Col)} {m : List (Nat × Nat)} (ok : c.Ok) (len : Tk.length = c.w * c.h) (l64 : ∀ T ∈ Tk, T.length = 64) (by_ : ∀ T ∈ Tk, ∀ d ∈ T, ByC d) : (endC c Tk m).Ok :=
  ⟨ok.w1, ok.w4, ok.h1, ok.h4, by simp [endC], len, l64, by_⟩
theorem endC_at {c : Cv} {Tk : List (List Col)} {m : List (Nat × Nat)} {i p : Nat} (h : (endC c Tk m).ps[i]? = some p) : i < c.w * c.h ∧ p = endP c Tk m i := by
  simp only [endC, List.getElem?_map] at h
  obtain ⟨j, hj, rfl⟩ := Option.map_eq_some_iff.1 h
  have hi := (List.getElem?_eq_some_iff.1 hj).1
  simp at hi
  rw [List.getElem?_range hi] at hj
  cases hj
  exact ⟨hi, rfl⟩
theorem endC_ts {c : Cv} {X W W' : World} {bm : Nat} {Tk : List (List Col)} {m : List (Nat × Nat)} (h : WSt c X bm Tk m W) (ok : c.Ok) (hc : TsAt W' c.ps c.Ts) (hk : ∀ e ∈ m, ∀ o, Has W e.2 o → Has W' e.2 o) : TsAt W' (endC c Tk m).ps (endC c Tk m).Ts := by
  intro i p T hp hT
  obtain ⟨hi, rfl⟩ := endC_at hp
  have hT' : Tk[i]? = some T := hT
  have hpi : c.ps[i]? = some (c.ps.getD i 0) := by rw [List.getD_eq_getElem?_getD, List.getElem?_eq_getElem (by rw [ok.np]; exact hi)]; rfl
  by_cases hm : i ∈ m.map Prod.fst
  · obtain ⟨⟨n, q⟩, he, rfl⟩ := List.mem_map.1 hm
    simp only [] at hT' hpi hi ⊢
    rw [endP_in h.nodup he]
    split
    · rename_i heq
      exact hc n _ T hpi (by rw [← heq]; exact hT')
    · exact hk _ he _ (h.tiles n q T he hT')
  · rw [endP_out hm]
    exact hc i _ T hpi (by rw [← h.rest i hi hm]; exact hT')
theorem endC_share {c : Cv} {X W : World} {bm : Nat} {Tk : List (List Col)} {m : List (Nat × Nat)} (h : WSt c X bm Tk m W) {i p p' : Nat} (hp : c.ps[i]? = some p) (hp' : (endC c Tk m).ps[i]? = some p') :
    (p' = p ∧ (endC c Tk m).Ts[i]? = c.Ts[i]?) ∨ ((endC c Tk m).Ts[i]? ≠ c.Ts[i]? ∧ X.heap.size ≤ p') := by
  obtain ⟨hi, rfl⟩ := endC_at hp'
  have hpi : c.ps.getD i 0 = p := by rw [List.getD_eq_getElem?_getD, hp]; rfl
  by_cases hm : i ∈ m.map Prod.fst
  · obtain ⟨⟨n, q⟩, he, rfl⟩ := List.mem_map.1 hm
    simp only [] at hpi hi ⊢
    rw [endP_in h.nodup he]
    split
    · rename_i heq
      exact .inl ⟨hpi, heq⟩
    · rename_i heq
      exact .inr ⟨heq, h.fresh _ he⟩
  · rw [endP_out hm]
    exact .inl ⟨hpi, h.rest i hi hm⟩
end Go.Proofs.Ytedckelfdkfkoaa
