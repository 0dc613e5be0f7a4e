/- A region that draws its order, in whose first part operations make blocks of their own (a variable's box, a row of arguments) beside calls: in whatever order they come, the same is known of what they leave. No program in sight. -/
import Derived.Test.YtedckelfdkfkoaaK
import Derived.StillTail
namespace Go.Proofs.Ytedckelfdkfkoaa
open Go.RowKit

/-- What an operation of the first part does: it yields a value (none); or it makes the block o and yields a value that names it. -/
abbrev Kd := (Nat → Value) × Option Obj

section
variable {P : Program} {ops : Array Oper}

def dstOf (ops : Array Oper) (i : Nat) : Option Tmp := (ops[i]?).bind (·.dst)
def valOf (ks : List Kd) (b : Nat → Nat) (i : Nat) : Value := (ks[i]?).elim undef (fun k => match k.2 with | none => k.1 0 | some _ => k.1 (b i))

def putL (ops : Array Oper) (ks : List Kd) (b : Nat → Nat) (ℓ : Nat → Bool) : List Nat → Act → Act
  | [], a => a
  | i :: r, a => putL ops ks b ℓ r (if ℓ i then a.put (dstOf ops i) (valOf ks b i) else a)

theorem putL_append {ks : List Kd} {b : Nat → Nat} {ℓ : Nat → Bool} : ∀ (l l' : List Nat) (a : Act), putL ops ks b ℓ (l ++ l') a = putL ops ks b ℓ l' (putL ops ks b ℓ l a)
  | [], _, _ => rfl
  | _ :: l, l', _ => putL_append l l' _

theorem putL_congr {ks : List Kd} {b b' : Nat → Nat} {ℓ ℓ' : Nat → Bool} : ∀ (l : List Nat) (a : Act), (∀ i ∈ l, ℓ i = ℓ' i) → (∀ i ∈ l, ℓ i = true → b i = b' i) → putL ops ks b ℓ l a = putL ops ks b' ℓ' l a
  | [], _, _, _ => rfl
  | i :: l, a, h, hb => by
    have hi := h i (by simp)
    have e : (if ℓ i then a.put (dstOf ops i) (valOf ks b i) else a) = (if ℓ' i then a.put (dstOf ops i) (valOf ks b' i) else a) := by
      rw [← hi]
      cases hl : ℓ i with
      | false => rfl
      | true => simp only [if_true]; unfold valOf; rw [hb i (by simp) hl]
    show putL ops ks b ℓ l _ = putL ops ks b' ℓ' l _
    rw [e]
    exact putL_congr l _ (fun j hj => h j (by simp [hj])) (fun j hj => hb j (by simp [hj]))

theorem putL_none {ks : List Kd} {b : Nat → Nat} {ℓ : Nat → Bool} : ∀ (l : List Nat) (a : Act), (∀ i ∈ l, ℓ i = false) → putL ops ks b ℓ l a = a
  | [], _, _ => rfl
  | i :: l, a, h => by
    show putL ops ks b ℓ l _ = a
    rw [h i (by simp)]
    exact putL_none l a (fun j hj => h j (by simp [hj]))

/-- no two of them write one slot -/
def Dist (ops : Array Oper) (n : Nat) : Prop := ∀ i j, i < n → j < n → i ≠ j → ∀ d, dstOf ops i = some d → dstOf ops j ≠ some d

theorem putL_put {ks : List Kd} {b : Nat → Nat} {ℓ : Nat → Bool} {n i : Nat} (hd : Dist ops n) (hi : i < n) (v : Value) : ∀ (l : List Nat) (a : Act), (∀ j ∈ l, j < n ∧ j ≠ i) →
    putL ops ks b ℓ l (a.put (dstOf ops i) v) = (putL ops ks b ℓ l a).put (dstOf ops i) v
  | [], _, _ => rfl
  | j :: l, a, h => by
    have hj := h j (by simp)
    have e : (if ℓ j then (a.put (dstOf ops i) v).put (dstOf ops j) (valOf ks b j) else a.put (dstOf ops i) v) = (if ℓ j then a.put (dstOf ops j) (valOf ks b j) else a).put (dstOf ops i) v := by
      cases ℓ j with
      | false => rfl
      | true => simp only [if_true]; exact Act.put_comm a _ _ (hd i j hi hj.1 (Ne.symm hj.2))
    show putL ops ks b ℓ l _ = _
    rw [e]
    exact putL_put hd hi v l _ (fun k hk => h k (by simp [hk]))

theorem putL_set {ks : List Kd} {b : Nat → Nat} {ℓ ℓ' : Nat → Bool} {n i : Nat} (hd : Dist ops n) (hi : i < n) (h0 : ℓ i = false) (h1 : ℓ' i = true) (he : ∀ j, j ≠ i → ℓ' j = ℓ j) (a : Act) :
    putL ops ks b ℓ' (List.range n) a = (putL ops ks b ℓ (List.range n) a).put (dstOf ops i) (valOf ks b i) := by
  obtain ⟨m, rfl⟩ : ∃ m, n = i + 1 + m := ⟨n - (i + 1), by omega⟩
  rw [List.range_add, List.range_succ, putL_append, putL_append, putL_append, putL_append]
  have e1 : putL ops ks b ℓ' (List.range i) a = putL ops ks b ℓ (List.range i) a := putL_congr _ _ (fun j hj => he j (by have := List.mem_range.1 hj; omega)) (fun _ _ _ => rfl)
  rw [e1]
  have e2 : ∀ a, putL ops ks b ℓ' [i] a = a.put (dstOf ops i) (valOf ks b i) := fun a => by simp [putL, h1]
  have e3 : ∀ a, putL ops ks b ℓ [i] a = a := fun a => by simp [putL, h0]
  rw [e2, e3]
  have e4 : ∀ a, putL ops ks b ℓ' ((List.range m).map (i + 1 + ·)) a = putL ops ks b ℓ ((List.range m).map (i + 1 + ·)) a := fun a =>
    putL_congr _ _ (fun j hj => he j (by obtain ⟨k, _, rfl⟩ := List.mem_map.1 hj; omega)) (fun _ _ _ => rfl)
  rw [e4]
  exact putL_put hd (by omega) _ _ _ (fun j hj => by obtain ⟨k, hk, rfl⟩ := List.mem_map.1 hj; have := List.mem_range.1 hk; omega)

/-- two frames agree on some slots -/
def Agree (L : List Tmp) (a a' : Act) : Prop := a.tmps.size = a'.tmps.size ∧ ∀ t ∈ L, a.tmps[t]? = a'.tmps[t]?

theorem putL_agree {ks : List Kd} {b : Nat → Nat} {ℓ ℓ' : Nat → Bool} {L : List Tmp} : ∀ (l : List Nat) (a a' : Act), Agree L a a' →
    (∀ j ∈ l, ∀ t ∈ L, dstOf ops j = some t → ℓ j = true ∧ ℓ' j = true) → Agree L (putL ops ks b ℓ l a) (putL ops ks b ℓ' l a')
  | [], _, _, h, _ => h
  | j :: l, a, a', h, hl => by
    refine putL_agree l _ _ ?_ (fun k hk => hl k (by simp [hk]))
    cases hdj : dstOf ops j with
    | none => cases ℓ j <;> cases ℓ' j <;> exact h
    | some d =>
      by_cases hm : d ∈ L
      · obtain ⟨h1, h2⟩ := hl j (by simp) d hm hdj
        rw [h1, h2]
        refine ⟨by simp [Act.put, h.1], fun t ht => ?_⟩
        simp only [if_true, Act.put, Array.getElem?_setIfInBounds, h.1, h.2 t ht]
      · have key : ∀ (c : Bool) (a : Act), (if c then a.put (some d) (valOf ks b j) else a).tmps.size = a.tmps.size ∧ ∀ t ∈ L, (if c then a.put (some d) (valOf ks b j) else a).tmps[t]? = a.tmps[t]? := by
          intro c a
          cases c with
          | false => exact ⟨rfl, fun _ _ => rfl⟩
          | true =>
            refine ⟨by simp [Act.put], fun t ht => ?_⟩
            have hne : d ≠ t := fun e => hm (e ▸ ht)
            simp [Act.put, Array.getElem?_setIfInBounds_ne hne]
        exact ⟨(key _ a).1.trans (h.1.trans (key _ a').1.symm), fun t ht => ((key _ a).2 t ht).trans ((h.2 t ht).trans ((key _ a').2 t ht).symm)⟩

theorem Agree.eval {L : List Tmp} {a a' : Act} (h : Agree L a a') {x : Operand} (hx : ∀ t, x = .tmp t → t ∈ L) : a.eval x = a'.eval x := by
  cases x with
  | tmp t => have := h.2 t (hx t rfl); simp [Act.eval, this]
  | _ => rfl

theorem Agree.exec {o : Oper} {a a' : Act} (h : Agree (o.looksAt ops) a a') (hs : ∀ cs b, o.op ≠ .select cs b) : execOp a.eval o = execOp a'.eval o :=
  execOp_congr o hs fun x hx => h.eval fun t e => by
    subst e
    exact List.mem_append_left _ (List.mem_filterMap.2 ⟨.tmp t, by simpa using hx, rfl⟩)

theorem Agree.wanted {o : Oper} {a a' : Act} (h : Agree (o.looksAt ops) a a') : Region.wanted o (yielded ops a.tmps) = Region.wanted o (yielded ops a'.tmps) := by
  unfold Region.wanted
  cases hg : o.guard with
  | none => rfl
  | some gw =>
    obtain ⟨g, want⟩ := gw
    have hy : yielded ops a.tmps g = yielded ops a'.tmps g := by
      unfold yielded
      cases ht : (ops[g]?).bind (·.dst) with
      | none => rfl
      | some t =>
        have := h.2 t (by simp [Oper.looksAt, hg, ht])
        simp [this]
    simp only [hy]

/-- In the world w the operation yields v and turns nothing of what is there. -/
def YieldsQ (P : Program) (ops : Array Oper) (o : Oper) (v : Value) (a : Act) (w : World) : Prop :=
  (Region.wanted o (yielded ops a.tmps) = true ∧ ((execOp a.eval o).run P w = .ok (.value v) w ∨
    ∃ f args, (execOp a.eval o).run P w = .ok (.enter f args) w ∧ Calls P f args w fun e w' => e = .returned v ∧ Below w.heap.size w w')) ∨
  (Region.wanted o (yielded ops a.tmps) = false ∧ v = undef)

/-- The walk of the first part, in the text's order, for whatever blocks are made. -/
def FWalk (P : Program) (ops : Array Oper) (w0 : World) (K : (Nat → Nat) → Act → World → Prop) (b : Nat → Nat) (all : List Kd) : List Kd → Nat → Act → Prop
  | [], _, a => ∀ w', Below w0.heap.size w0 w' → (∀ j v o, all[j]? = some (v, some o) → w0.heap.size ≤ b j ∧ Has w' (b j) o) →
      (∀ j k v o v' o', j ≠ k → all[j]? = some (v, some o) → all[k]? = some (v', some o') → b j ≠ b k) → K b a w'
  | (v, none) :: r, i, a => (∀ w', Below w0.heap.size w0 w' → (∀ j v o, Region.waitsFor .any ops i j = true → all[j]? = some (v, some o) → w0.heap.size ≤ b j ∧ Has w' (b j) o) →
      ∀ o, ops[i]? = some o → YieldsQ P ops o (v 0) a w') ∧ FWalk P ops w0 K b all r (i + 1) (a.put (dstOf ops i) (v 0))
  | (v, some ob) :: r, i, a => (∀ o, ops[i]? = some o → Region.wanted o (yielded ops a.tmps) = true ∧ ∀ w', (execOp a.eval o).run P w' = .ok (.value (v w'.heap.size)) (w'.alloc ob)) ∧
      FWalk P ops w0 K b all r (i + 1) (a.put (dstOf ops i) (v (b i)))

/-- What is asked of the region's text. -/
def freshB (ops : Array Oper) (n : Nat) (σ : List (Nat × Bool)) : Bool :=
  Region.noSelect ops && decide (n < ops.size) && Region.sinkB .any ops n && Region.chainB .any ops n &&
  ((List.range n).all fun i => (List.range n).all fun j =>
    (i == j || (match dstOf ops i with | some d => dstOf ops j != some d | none => true)) &&
    (match ops[i]? with
     | some o => (match dstOf ops j with | some d => !(o.looksAt ops).contains d || Region.waitsFor .any ops i j | none => true)
     | none => true) && (!Region.waitsFor .any ops i j || decide (j < i))) &&
  ((List.range n).all fun i => match ops[i]? with | some o => o.after.all fun e => !Region.binds .any e || decide (e.on < i) | none => true) &&
  decide (σ.length + n = ops.size) && schedB ops σ ((List.range n).foldl (fun l i => l.setIfInBounds i true) (Array.replicate ops.size false))


/-- what the walk says of operation k at the frame a -/
def FOp (P : Program) (ops : Array Oper) (w0 : World) (b : Nat → Nat) (all : List Kd) (k : Nat) (a : Act) : Prop :=
  match all[k]? with
  | none => True
  | some (v, none) => ∀ w', Below w0.heap.size w0 w' → (∀ j v o, Region.waitsFor .any ops k j = true → all[j]? = some (v, some o) → w0.heap.size ≤ b j ∧ Has w' (b j) o) →
      ∀ o, ops[k]? = some o → YieldsQ P ops o (v 0) a w'
  | some (v, some ob) => ∀ o, ops[k]? = some o → Region.wanted o (yielded ops a.tmps) = true ∧ ∀ w', (execOp a.eval o).run P w' = .ok (.value (v w'.heap.size)) (w'.alloc ob)

def FEnd (w0 : World) (K : (Nat → Nat) → Act → World → Prop) (b : Nat → Nat) (all : List Kd) (a : Act) : Prop :=
  ∀ w', Below w0.heap.size w0 w' → (∀ j v o, all[j]? = some (v, some o) → w0.heap.size ≤ b j ∧ Has w' (b j) o) →
      (∀ j k v o v' o', j ≠ k → all[j]? = some (v, some o) → all[k]? = some (v', some o') → b j ≠ b k) → K b a w'

theorem valOf_none {all : List Kd} {b : Nat → Nat} {i : Nat} {v : Nat → Value} (h : all[i]? = some (v, none)) : valOf all b i = v 0 := by unfold valOf; rw [h]; rfl
theorem valOf_some {all : List Kd} {b : Nat → Nat} {i : Nat} {v : Nat → Value} {o : Obj} (h : all[i]? = some (v, some o)) : valOf all b i = v (b i) := by unfold valOf; rw [h]; rfl

theorem FWalk.parts {w0 : World} {K : (Nat → Nat) → Act → World → Prop} {b : Nat → Nat} {all : List Kd} : ∀ (l : List Kd) (i : Nat) (a : Act), (∀ j, l[j]? = all[i + j]?) → FWalk P ops w0 K b all l i a →
    (∀ m, m < l.length → FOp P ops w0 b all (i + m) (putL ops all b (fun _ => true) ((List.range m).map (i + ·)) a)) ∧
    FEnd w0 K b all (putL ops all b (fun _ => true) ((List.range l.length).map (i + ·)) a)
  | [], i, a, _, h => ⟨fun m hm => by simp at hm, h⟩
  | (v, k) :: l, i, a, hl, h => by
    have h0 : all[i]? = some (v, k) := by have := hl 0; simpa using this.symm
    have hrest : FWalk P ops w0 K b all l (i + 1) (a.put (dstOf ops i) (valOf all b i)) := by
      cases k with
      | none => rw [valOf_none h0]; exact h.2
      | some ob => rw [valOf_some h0]; exact h.2
    have ih := FWalk.parts l (i + 1) _ (fun j => by have := hl (j + 1); simpa [Nat.add_assoc, Nat.add_comm 1 j] using this) hrest
    have shift : ∀ m, putL ops all b (fun _ => true) ((List.range (m + 1)).map (i + ·)) a = putL ops all b (fun _ => true) ((List.range m).map (i + 1 + ·)) (a.put (dstOf ops i) (valOf all b i)) := by
      intro m
      have e : (List.range (m + 1)).map (i + ·) = i :: (List.range m).map (i + 1 + ·) := by
        rw [List.range_succ_eq_map, List.map_cons, List.map_map, Nat.add_zero]
        congr 1
        refine List.map_congr_left fun x _ => ?_
        simp; omega
      rw [e]
      rfl
    refine ⟨fun m hm => ?_, by rw [List.length_cons, shift]; exact ih.2⟩
    cases m with
    | zero =>
      show FOp P ops w0 b all (i + 0) a
      unfold FOp
      rw [Nat.add_zero, h0]
      cases k with
      | none => exact h.1
      | some ob => exact h.1
    | succ m =>
      rw [shift, show i + (m + 1) = i + 1 + m by omega]
      exact ih.1 m (by simpa using hm)

structure FState (ops : Array Oper) (n : Nat) (w0 : World) (all : List Kd) (a0 : Act) (b : Nat → Nat) (listed : Array Bool) (a : Act) (w : World) : Prop where
  head : HeadInv .any ops n listed
  act : a = putL ops all b (fun i => listed.getD i false) (List.range n) a0
  below : Below w0.heap.size w0 w
  fresh : ∀ j v o, listed.getD j false = true → all[j]? = some (v, some o) → w0.heap.size ≤ b j ∧ Has w (b j) o
  dist : ∀ j k v o v' o', j ≠ k → listed.getD j false = true → listed.getD k false = true → all[j]? = some (v, some o) → all[k]? = some (v', some o') → b j ≠ b k

def undone (listed : Array Bool) (n : Nat) : Nat := ((List.range n).filter fun i => !listed.getD i false).length

theorem undone_set {listed : Array Bool} {i : Nat} (hi : i < listed.size) (h0 : listed.getD i false = false) : ∀ {n : Nat}, i < n → undone (listed.setIfInBounds i true) n + 1 = undone listed n := by
  intro n hin
  obtain ⟨m, rfl⟩ : ∃ m, n = i + 1 + m := ⟨n - (i + 1), by omega⟩
  have e : ∀ j, j ≠ i → (listed.setIfInBounds i true).getD j false = listed.getD j false := fun j hj => getD_set_ne false (Ne.symm hj)
  have ei : (listed.setIfInBounds i true).getD i false = true := by simp [hi]
  unfold undone
  rw [List.range_add, List.range_succ]
  simp only [List.filter_append, List.length_append]
  have a1 : (List.range i).filter (fun j => !(listed.setIfInBounds i true).getD j false) = (List.range i).filter (fun j => !listed.getD j false) :=
    List.filter_congr fun j hj => by rw [e j (by have := List.mem_range.1 hj; omega)]
  have a2 : ((List.range m).map (i + 1 + ·)).filter (fun j => !(listed.setIfInBounds i true).getD j false) = ((List.range m).map (i + 1 + ·)).filter (fun j => !listed.getD j false) :=
    List.filter_congr fun j hj => by rw [e j (by obtain ⟨k, _, rfl⟩ := List.mem_map.1 hj; omega)]
  have a3 : [i].filter (fun j => !(listed.setIfInBounds i true).getD j false) = [] := by simp [List.filter, ei]
  have a4 : [i].filter (fun j => !listed.getD j false) = [i] := by simp [List.filter, h0]
  rw [a1, a2, a3, a4]
  simp; omega

theorem undone_zero {listed : Array Bool} {n : Nat} (h : undone listed n = 0) : ∀ i, i < n → listed.getD i false = true := by
  intro i hi
  unfold undone at h
  have := List.length_eq_zero_iff.1 h
  have h2 := List.filter_eq_nil_iff.1 this i (List.mem_range.2 hi)
  simpa using h2

theorem undone_pos {listed : Array Bool} {n k : Nat} (h : undone listed n = k + 1) : ∃ i, i < n ∧ listed.getD i false = false ∧ ∀ j, j < i → listed.getD j false = true := by
  have hex : ∃ i, i < n ∧ listed.getD i false = false := by
    cases hc : (List.range n).filter (fun i => !listed.getD i false) with
    | nil => unfold undone at h; rw [hc] at h; simp at h
    | cons i r =>
      have hm : i ∈ (List.range n).filter (fun i => !listed.getD i false) := by rw [hc]; simp
      obtain ⟨h1, h2⟩ := List.mem_filter.1 hm
      exact ⟨i, List.mem_range.1 h1, by simpa using h2⟩
  obtain ⟨i, hi, h0⟩ := hex
  revert hi h0
  induction i using Nat.strongRecOn with
  | _ i ih =>
    intro hi h0
    by_cases hall : ∀ j, j < i → listed.getD j false = true
    · exact ⟨i, hi, h0, hall⟩
    · have : ∃ j, j < i ∧ listed.getD j false = false := by
        refine Classical.byContradiction fun hne => hall fun j hj => ?_
        cases hc : listed.getD j false with
        | true => rfl
        | false => exact absurd ⟨j, hj, hc⟩ hne
      obtain ⟨j, hj, hj0⟩ := this
      exact ih j hj (by omega) hj0

theorem foldl_set_size : ∀ (l : List Nat) (x : Array Bool), (l.foldl (fun l i => l.setIfInBounds i true) x).size = x.size
  | [], _ => rfl
  | i :: l, x => by rw [List.foldl_cons, foldl_set_size]; simp
theorem foldl_set_getD : ∀ (l : List Nat) (x : Array Bool) (j : Nat), j < x.size → (l.foldl (fun l i => l.setIfInBounds i true) x).getD j false = (decide (j ∈ l) || x.getD j false)
  | [], x, j, _ => by simp
  | i :: l, x, j, hj => by
    rw [List.foldl_cons, foldl_set_getD l _ j (by simpa using hj)]
    by_cases e : i = j
    · subst e; simp [hj]
    · rw [getD_set_ne false e]; simp [Ne.symm e]

theorem putL_prefix {ks : List Kd} {b : Nat → Nat} {n i : Nat} (hi : i ≤ n) (a : Act) : putL ops ks b (fun j => decide (j < i)) (List.range n) a = putL ops ks b (fun _ => true) (List.range i) a := by
  obtain ⟨m, rfl⟩ : ∃ m, n = i + m := ⟨n - i, by omega⟩
  rw [List.range_add, putL_append]
  rw [putL_none _ _ (fun j hj => by obtain ⟨k, _, rfl⟩ := List.mem_map.1 hj; simp)]
  exact putL_congr _ _ (fun j hj => by simpa using List.mem_range.1 hj) (fun _ _ _ => rfl)

theorem fresh_any {n : Nat} {σ : List (Nat × Bool)} {w0 : World} {a0 : Act} {all : List Kd} {S : (Nat → Nat) → World → Prop} {K : Act → World → Prop} (hB : freshB ops n σ = true) (hlen : all.length = n)
    (hw : ∀ b, FWalk P ops w0 (fun b a w => S b w ∧ Sched P ops (S b) K σ a w) b all all 0 a0) :
    wpAny P .any ops (OnlyNormal K) ops.size (Array.replicate ops.size false) a0 w0 := by
  simp only [freshB, Bool.and_eq_true, decide_eq_true_eq] at hB
  obtain ⟨⟨⟨⟨⟨⟨⟨hsel, hn⟩, hs⟩, hc⟩, hpair⟩, hdep⟩, hσ⟩, hsched⟩ := hB
  have pair : ∀ i j, i < n → j < n → _ := fun i j hi hj => List.all_eq_true.1 (List.all_eq_true.1 hpair i (List.mem_range.2 hi)) j (List.mem_range.2 hj)
  have hd : Dist ops n := by
    intro i j hi hj hij d hdi hdj
    have := pair i j hi hj
    simp only [Bool.and_eq_true] at this
    have h1 := this.1.1
    rw [hdi, hdj] at h1
    simp [hij] at h1
  have look : ∀ i j, i < n → j < n → ∀ o, ops[i]? = some o → ∀ d, dstOf ops j = some d → d ∈ o.looksAt ops → Region.waitsFor .any ops i j = true := by
    intro i j hi hj o ho d hdj hm
    have := pair i j hi hj
    simp only [Bool.and_eq_true] at this
    have h1 := this.1.2
    rw [ho, hdj] at h1
    simp [hm] at h1
    exact h1
  have lt : ∀ i j, i < n → j < n → Region.waitsFor .any ops i j = true → j < i := by
    intro i j hi hj hwf
    have := pair i j hi hj
    simp only [Bool.and_eq_true] at this
    have h1 := this.2
    rw [hwf] at h1
    simpa using h1
  have main : ∀ (m : Nat) (listed : Array Bool) (b : Nat → Nat) (a : Act) (w : World), FState ops n w0 all a0 b listed a w → undone listed n = m → wpAny P .any ops (OnlyNormal K) (m + σ.length) listed a w := by
    intro m
    induction m with
    | zero =>
      intro listed b a w st hu
      have hall := undone_zero hu
      have hend := (FWalk.parts all 0 a0 (fun j => by simp) (hw b)).2
      have ea : a = putL ops all b (fun _ => true) ((List.range all.length).map (0 + ·)) a0 := by
        rw [st.act, hlen]
        simp only [Nat.zero_add, List.map_id']
        exact putL_congr _ _ (fun j hj => hall j (List.mem_range.1 hj)) (fun _ _ _ => rfl)
      rw [← ea] at hend
      have inall : ∀ j v o, all[j]? = some (v, some o) → listed.getD j false = true := fun j v o h => hall j (by have := (List.getElem?_eq_some_iff.1 h).1; omega)
      obtain ⟨hS, hK⟩ := hend w st.below (fun j v o h => st.fresh j v o (inall j v o h) h) (fun j k v o v' o' hjk h h' => st.dist j k v o v' o' hjk (inall j v o h) (inall k v' o' h') h h')
      have el : listed = (List.range n).foldl (fun l i => l.setIfInBounds i true) (Array.replicate ops.size false) := by
        apply Array.ext
        · rw [foldl_set_size, st.head.size]; simp
        · intro j h1 h2
          have hj : j < ops.size := by rw [← st.head.size]; exact h1
          have g1 : listed[j] = listed.getD j false := by simp [h1]
          have g2 : ((List.range n).foldl (fun l i => l.setIfInBounds i true) (Array.replicate ops.size false))[j] = ((List.range n).foldl (fun l i => l.setIfInBounds i true) (Array.replicate ops.size false)).getD j false := by simp [h2]
          rw [g1, g2, foldl_set_getD _ _ _ (by simpa using hj)]
          by_cases hjn : j < n
          · rw [hall j hjn]; simp [hjn]
          · have := getD_both (st.head.tail j (by omega) hj)
            rw [this, getD_replicate_false]; simp [hjn]
      rw [Nat.zero_add, el]
      exact wpAny_of_held _ _ _ _ (sched_sound hsel σ _ a w hsched hS hK)
    | succ m ih =>
      intro listed b a w st hu
      obtain ⟨i0, hi0, h00, hlow⟩ := undone_pos hu
      have hsz0 : i0 < listed.size := by rw [st.head.size]; omega
      have hne : Region.ready .any ops listed ≠ [] := by
        intro he
        have hio : i0 < ops.size := by omega
        have hm : i0 ∈ Region.ready .any ops listed := by
          rw [mem_ready]
          refine ⟨getD_in hsz0 h00, ops[i0], Array.getElem?_eq_getElem hio, fun e hem hb => ?_⟩
          have h1 := List.all_eq_true.1 hdep i0 (List.mem_range.2 hi0)
          rw [Array.getElem?_eq_getElem hio] at h1
          have h2 := (Array.all_eq_true_iff_forall_mem.1 h1) e hem
          rw [hb] at h2
          exact hlow _ (by simpa using h2)
        rw [he] at hm; cases hm
      rw [show m + 1 + σ.length = (m + σ.length) + 1 by omega]
      refine ⟨fun h => absurd h hne, fun i hi => ?_⟩
      have hin : i < n := by
        rcases Nat.lt_or_ge i n with h | h
        · exact h
        · exact absurd hi (tail_waits hs hc hn st.head _ i0 rfl hi0 (getD_in hsz0 h00) i h)
      obtain ⟨hi1, o, ho, hdeps⟩ := mem_ready.1 hi
      have hi0' : listed.getD i false = false := getD_both hi1
      have hisz : i < listed.size := by rw [st.head.size]; omega
      have waits : ∀ j, Region.waitsFor .any ops i j = true → listed.getD j false = true := fun j hj => by
        obtain ⟨o', ho', e, he, hb, hon⟩ := Region.waitsFor_spec hj
        rw [ho] at ho'; cases ho'
        rw [← hon]; exact hdeps e he hb
      have hag : Agree (o.looksAt ops) a (putL ops all b (fun _ => true) ((List.range i).map (0 + ·)) a0) := by
        have e1 : putL ops all b (fun _ => true) ((List.range i).map (0 + ·)) a0 = putL ops all b (fun j => decide (j < i)) (List.range n) a0 := by
          rw [putL_prefix (by omega)]; simp
        rw [e1, st.act]
        refine putL_agree _ _ _ ⟨rfl, fun _ _ => rfl⟩ fun j hj t ht hdj => ?_
        have hjn := List.mem_range.1 hj
        have hwf := look i j hin hjn o ho t hdj ht
        exact ⟨waits j hwf, by simpa using lt i j hin hjn hwf⟩
      have hsel' : ∀ cs bb, o.op ≠ .select cs bb := fun cs bb => Region.noSelect_spec hsel i o cs bb ho
      have hdst : dstOf ops i = o.dst := by unfold dstOf; rw [ho]; rfl
      have hfop := (FWalk.parts all 0 a0 (fun j => by simp) (hw b)).1 i (by omega)
      rw [Nat.zero_add] at hfop
      unfold FOp at hfop
      obtain ⟨k, hk⟩ : ∃ k, all[i]? = some k := ⟨all[i]'(by omega), List.getElem?_eq_getElem (by omega)⟩
      obtain ⟨v, ko⟩ := k
      rw [hk] at hfop
      have unset : undone (listed.setIfInBounds i true) n = m := by have := undone_set hisz hi0' hin; omega
      have gset : ∀ j, j ≠ i → (listed.setIfInBounds i true).getD j false = listed.getD j false := fun j hj => getD_set_ne false (Ne.symm hj)
      have gi : (listed.setIfInBounds i true).getD i false = true := by simp [hisz]
      cases ko with
      | none =>
        have hy := hfop w st.below (fun j v' o' hwf hj => st.fresh j v' o' (waits j hwf) hj) o ho
        have next : ∀ w', Below w.heap.size w w' → wpAny P .any ops (OnlyNormal K) (m + σ.length) (listed.setIfInBounds i true) (a.put o.dst (v 0)) w' := by
          intro w' hb
          refine ih _ b _ _ ⟨st.head.set hi hin, ?_, ?_, ?_, ?_⟩ unset
          · rw [putL_set hd hin hi0' gi gset, ← st.act, hdst, valOf_none hk]
          · exact ⟨hb.os.trans st.below.os, hb.tape.trans st.below.tape, hb.output.trans st.below.output, Nat.le_trans st.below.size hb.size, fun k hk' => (hb.block k (Nat.lt_of_lt_of_le hk' st.below.size)).trans (st.below.block k hk')⟩
          · intro j v' o' hj hj'
            have hji : j ≠ i := by rintro rfl; rw [hk] at hj'; cases hj'
            rw [gset j hji] at hj
            obtain ⟨f1, f2⟩ := st.fresh j v' o' hj hj'
            exact ⟨f1, f2.below hb f2.lt⟩
          · intro j k v1 o1 v2 o2 hjk hj hk2 hj' hk2'
            have hji : j ≠ i := by rintro rfl; rw [hk] at hj'; cases hj'
            have hki : k ≠ i := by rintro rfl; rw [hk] at hk2'; cases hk2'
            rw [gset j hji] at hj; rw [gset k hki] at hk2
            exact st.dist j k v1 o1 v2 o2 hjk hj hk2 hj' hk2'
        unfold wpOp
        rw [ho]
        simp only
        have hwant := Agree.wanted hag
        rcases hy with ⟨hwt, hrun⟩ | ⟨hwt, hv⟩
        · rw [hwant, hwt, if_pos rfl]
          refine .inl ?_
          unfold Oper.wp
          rw [Agree.exec hag hsel']
          rcases hrun with hrun | ⟨f, args, hrun, hcall⟩
          · rw [hrun]; exact next w (Below.refl _ _)
          · rw [hrun]; exact hcall.mono fun e w' ⟨he, hb⟩ => by subst he; exact next w' hb
        · rw [hwant, hwt, if_neg (by simp), ← hv]; exact next w (Below.refl _ _)
      | some ob =>
        obtain ⟨hwt, hrun⟩ := hfop o ho
        have next : wpAny P .any ops (OnlyNormal K) (m + σ.length) (listed.setIfInBounds i true) (a.put o.dst (v w.heap.size)) (w.alloc ob) := by
          have hb' : ∀ j, j ≠ i → (fun j => if j = i then w.heap.size else b j) j = b j := fun j hj => by simp [hj]
          refine ih _ (fun j => if j = i then w.heap.size else b j) _ _ ⟨st.head.set hi hin, ?_, ?_, ?_, ?_⟩ unset
          · rw [putL_set hd hin hi0' gi gset, hdst, valOf_some hk]
            simp only [if_true]
            congr 1
            rw [st.act]
            exact putL_congr _ _ (fun _ _ => rfl) (fun j _ hj => (hb' j (by rintro rfl; rw [hi0'] at hj; cases hj)).symm)
          · exact st.below.alloc st.below.size _
          · intro j v' o' hj hj'
            by_cases hji : j = i
            · subst hji
              rw [hk] at hj'; cases hj'
              simp only [if_true]
              exact ⟨st.below.size, Has.new _ _⟩
            · rw [gset j hji] at hj
              obtain ⟨f1, f2⟩ := st.fresh j v' o' hj hj'
              simp only [hji, if_false]
              exact ⟨f1, f2.alloc _⟩
          · intro j k v1 o1 v2 o2 hjk hj hk2 hj' hk2'
            by_cases hji : j = i
            · subst hji
              have hki : k ≠ j := Ne.symm hjk
              rw [gset k hki] at hk2
              have := (st.fresh k v2 o2 hk2 hk2').2.lt
              simp only [if_true, hki, if_false]
              omega
            · by_cases hki : k = i
              · subst hki
                rw [gset j hji] at hj
                have := (st.fresh j v1 o1 hj hj').2.lt
                simp only [if_true, hji, if_false]
                omega
              · rw [gset j hji] at hj; rw [gset k hki] at hk2
                simp only [hji, hki, if_false]
                exact st.dist j k v1 o1 v2 o2 hjk hj hk2 hj' hk2'
        unfold wpOp
        rw [ho]
        simp only
        rw [Agree.wanted hag, hwt, if_pos rfl]
        refine .inl ?_
        unfold Oper.wp
        rw [Agree.exec hag hsel', hrun]
        exact next
  have st0 : FState ops n w0 all a0 (fun _ => 0) (Array.replicate ops.size false) a0 w0 :=
    ⟨⟨by simp, fun j oj _ hl => (by rw [getD_replicate_false] at hl; cases hl), fun t _ ht => getD_in (by simpa using ht) (getD_replicate_false _ _)⟩,
      (putL_none _ _ (fun i _ => getD_replicate_false _ _)).symm, Below.refl _ _, fun j v o h => (by rw [getD_replicate_false] at h; cases h), fun j k v o v' o' _ h => (by rw [getD_replicate_false] at h; cases h)⟩
  have hu : undone (Array.replicate ops.size false) n = n := by
    unfold undone
    rw [List.filter_eq_self.2 (fun i _ => by rw [getD_replicate_false]; rfl)]
    simp
  have := main n _ _ _ _ st0 hu
  rwa [show n + σ.length = ops.size by omega] at this

/-- In a plain walk. -/
theorem wp_region_fresh {id : Nat} {Q : Exit → Act → World → Prop} {a : Act} {w : World} (n : Nat) (σ : List (Nat × Bool)) (all : List Kd) (S : (Nat → Nat) → World → Prop)
    (hm : P.follows .mixedOrders = true) (hB : freshB ops n σ = true) (hlen : all.length = n)
    (hw : ∀ b, FWalk P ops w.drew (fun b a w => S b w ∧ Sched P ops (S b) (Q .normal) σ a w) b all all 0 a) : (Code.region id ops true).wp P Q a w := by
  have h1 : (Code.region id ops true).wp P (OnlyNormal (Q .normal)) a w := wp_region_any hm (fresh_any hB hlen hw)
  intro b k cs
  obtain ⟨e, a', w', hq, r⟩ := h1 b k cs
  cases e <;> first | exact ⟨_, _, _, hq, r⟩ | exact hq.elim

/-- In a round's walk. -/
theorem wpIn_region_fresh {l id : Nat} {Q : Exit → Act → World → Prop} {a : Act} {w : World} (n : Nat) (σ : List (Nat × Bool)) (all : List Kd) (S : (Nat → Nat) → World → Prop)
    (hm : P.follows .mixedOrders = true) (hd : Region.noDefer ops = true) (hB : freshB ops n σ = true) (hlen : all.length = n)
    (hw : ∀ b, FWalk P ops w.drew (fun b a w => S b w ∧ Sched P ops (S b) (Q .normal) σ a w) b all all 0 a) : (Code.region id ops true).wpIn (Fence.wide.inRound l) 0 P Q a w :=
  wpIn_mono (wpIn_region_any hm (wpAnyIn_of_wpAny hd _ _ _ _ (fresh_any hB hlen hw))) fun e a' w' hq => by
    cases e <;> first | exact hq | exact hq.elim
end

/-! ### Four cells stored one behind the other -/
abbrev w4 (X : World) (r : Nat) (a b c d : Value) : World := (((X.setCell ⟨r, 0, none⟩ a).setCell ⟨r, 1, none⟩ b).setCell ⟨r, 2, none⟩ c).setCell ⟨r, 3, none⟩ d
theorem Has.put4 {X : World} {r : Nat} {x0 x1 x2 x3 : Value} {T : TypeId} {z : Nat × Nat} (h : Has X r (.cells #[x0, x1, x2, x3] T z)) (a b c d : Value) : Has (w4 X r a b c d) r (.cells #[a, b, c, d] T z) :=
  (((h.set 0 a).set 1 b).set 2 c).set 3 d
theorem Has.put4_other {X : World} {r s : Nat} {o : Obj} (h : Has X s o) (a b c d : Value) (hne : s ≠ r) : Has (w4 X r a b c d) s o :=
  (((h.other (a := ⟨r, 0, none⟩) a hne).other (a := ⟨r, 1, none⟩) b hne).other (a := ⟨r, 2, none⟩) c hne).other (a := ⟨r, 3, none⟩) d hne
theorem below_put4 {n : Nat} {A X : World} {r : Nat} (h : Below n A X) (hr : n ≤ r) (a b c d : Value) : Below n A (w4 X r a b c d) :=
  (((h.setCell (p := ⟨r, 0, none⟩) hr a).setCell (p := ⟨r, 1, none⟩) hr b).setCell (p := ⟨r, 2, none⟩) hr c).setCell (p := ⟨r, 3, none⟩) hr d
theorem Has.four {X : World} {r : Nat} {x0 x1 x2 x3 : Value} {T : TypeId} {z : Nat × Nat} (h : Has X r (.cells #[x0, x1, x2, x3] T z)) :
    X.cell? ⟨r, 0, none⟩ = some x0 ∧ X.cell? ⟨r, 1, none⟩ = some x1 ∧ X.cell? ⟨r, 2, none⟩ = some x2 ∧ X.cell? ⟨r, 3, none⟩ = some x3 := ⟨h.cell 0, h.cell 1, h.cell 2, h.cell 3⟩
theorem Has.free4 {X : World} {r : Nat} {cs : Array Value} {T : TypeId} (h : Has X r (.cells cs T (0, 0))) :
    X.frozen? ⟨r, 0, none⟩ = false ∧ X.frozen? ⟨r, 1, none⟩ = false ∧ X.frozen? ⟨r, 2, none⟩ = false ∧ X.frozen? ⟨r, 3, none⟩ = false := ⟨h.free 0, h.free 1, h.free 2, h.free 3⟩

section
variable {P : Program} {ops : Array Oper} {w0 : World} {K : (Nat → Nat) → Act → World → Prop} {b : Nat → Nat} {all r : List Kd} {i : Nat} {a : Act} {v : Nat → Value}
/-- The steps of such a walk. -/
theorem fresh_pure {o : Oper} (ho : ops[i]? = some o) (hw : Region.wanted o (yielded ops a.tmps) = true) (hy : ∀ w', Below w0.heap.size w0 w' → (execOp a.eval o).run P w' = .ok (.value (v 0)) w')
    (h : FWalk P ops w0 K b all r (i + 1) (a.put o.dst (v 0))) : FWalk P ops w0 K b all ((v, none) :: r) i a :=
  ⟨fun w' hB _ o' ho' => by rw [ho] at ho'; cases ho'; exact .inl ⟨hw, .inl (hy w' hB)⟩, by rw [show dstOf ops i = o.dst by unfold dstOf; rw [ho]; rfl]; exact h⟩
/-- One that looks at a block made before. -/
theorem fresh_look {o : Oper} (ho : ops[i]? = some o) (hw : Region.wanted o (yielded ops a.tmps) = true)
    (hy : ∀ w', Below w0.heap.size w0 w' → (∀ j v o, Region.waitsFor .any ops i j = true → all[j]? = some (v, some o) → w0.heap.size ≤ b j ∧ Has w' (b j) o) → (execOp a.eval o).run P w' = .ok (.value (v 0)) w')
    (h : FWalk P ops w0 K b all r (i + 1) (a.put o.dst (v 0))) : FWalk P ops w0 K b all ((v, none) :: r) i a :=
  ⟨fun w' hB hA o' ho' => by rw [ho] at ho'; cases ho'; exact .inl ⟨hw, .inl (hy w' hB hA)⟩, by rw [show dstOf ops i = o.dst by unfold dstOf; rw [ho]; rfl]; exact h⟩
theorem fresh_call {o : Oper} {f : FuncId} {args : Array Value} (ho : ops[i]? = some o) (hw : Region.wanted o (yielded ops a.tmps) = true)
    (hr : ∀ w', Below w0.heap.size w0 w' → (∀ j v o, Region.waitsFor .any ops i j = true → all[j]? = some (v, some o) → w0.heap.size ≤ b j ∧ Has w' (b j) o) → (execOp a.eval o).run P w' = .ok (.enter f args) w')
    (hc : ∀ w', Below w0.heap.size w0 w' → (∀ j v o, Region.waitsFor .any ops i j = true → all[j]? = some (v, some o) → w0.heap.size ≤ b j ∧ Has w' (b j) o) → Calls P f args w' fun e w'' => e = .returned (v 0) ∧ Below w'.heap.size w' w'')
    (h : FWalk P ops w0 K b all r (i + 1) (a.put o.dst (v 0))) : FWalk P ops w0 K b all ((v, none) :: r) i a :=
  ⟨fun w' hB hA o' ho' => by rw [ho] at ho'; cases ho'; exact .inl ⟨hw, .inr ⟨f, args, hr w' hB hA, hc w' hB hA⟩⟩, by rw [show dstOf ops i = o.dst by unfold dstOf; rw [ho]; rfl]; exact h⟩
theorem fresh_idle {o : Oper} (ho : ops[i]? = some o) (hw : Region.wanted o (yielded ops a.tmps) = false) (hv : v 0 = undef)
    (h : FWalk P ops w0 K b all r (i + 1) (a.put o.dst undef)) : FWalk P ops w0 K b all ((v, none) :: r) i a :=
  ⟨fun _ _ _ o' ho' => by rw [ho] at ho'; cases ho'; exact .inr ⟨hw, hv⟩, by rw [show dstOf ops i = o.dst by unfold dstOf; rw [ho]; rfl, hv]; exact h⟩
theorem fresh_new {o : Oper} {ob : Obj} (ho : ops[i]? = some o) (hw : Region.wanted o (yielded ops a.tmps) = true) (hy : ∀ w', (execOp a.eval o).run P w' = .ok (.value (v w'.heap.size)) (w'.alloc ob))
    (h : FWalk P ops w0 K b all r (i + 1) (a.put o.dst (v (b i)))) : FWalk P ops w0 K b all ((v, some ob) :: r) i a :=
  ⟨fun o' ho' => by rw [ho] at ho'; cases ho'; exact ⟨hw, hy⟩, by rw [show dstOf ops i = o.dst by unfold dstOf; rw [ho]; rfl]; exact h⟩
theorem fresh_end (h : ∀ w', Below w0.heap.size w0 w' → (∀ j v o, all[j]? = some (v, some o) → w0.heap.size ≤ b j ∧ Has w' (b j) o) →
      (∀ j k v o v' o', j ≠ k → all[j]? = some (v, some o) → all[k]? = some (v', some o') → b j ≠ b k) → K b a w') : FWalk P ops w0 K b all [] i a := h
end
end Go.Proofs.Ytedckelfdkfkoaa
