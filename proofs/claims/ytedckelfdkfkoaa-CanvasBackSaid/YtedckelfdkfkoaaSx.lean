/- A region that draws its order, by a tree of schedules, with a last store for which some need not wait that look at no world. No program in sight. -/
import Derived.Test.YtedckelfdkfkoaaF
namespace Go.Proofs.Ytedckelfdkfkoaa
open Go.RowKit

namespace Late
/-- An operation that looks at no world. -/
def blindB (ops : Array Oper) (j : Nat) : Bool := match ops[j]? with | some o => (match o.op with | .extract _ _ => true | .move _ => true | _ => false) | none => false
/-- An operation that waits for all others but such. -/
def lastB (ops : Array Oper) (i : Nat) : Bool := (List.range ops.size).all fun j => i == j || blindB ops j || (match ops[i]? with | some o => o.after.any fun e => Region.binds .any e && e.on == j | none => false)
/-- Whatever order is picked, and S holds behind every operation but one that waits for all others. -/
def HeldL (P : Program) (ops : Array Oper) (Q : Exit → Act → World → Prop) (S : World → Prop) : Nat → Array Bool → Act → World → Prop
  | 0, listed, a, w => Region.ready .any ops listed = [] ∧ Q .normal a w
  | n + 1, listed, a, w => (Region.ready .any ops listed = [] → Q .normal a w) ∧
    ∀ i ∈ Region.ready .any ops listed, wpOp P ops Q i (fun a' w' => (lastB ops i = false → S w → S w') ∧ HeldL P ops Q S n (listed.setIfInBounds i true) a' w') a w
theorem heldL_any {P : Program} {ops : Array Oper} {Q : Exit → Act → World → Prop} {S : World → Prop} : ∀ (n : Nat) (listed : Array Bool) (a : Act) (w : World), HeldL P ops Q S n listed a w → wpAny P .any ops Q n listed a w
  | 0, _, _, _, h => h
  | n + 1, _, _, _, h => ⟨h.1, fun i hi => wpOp_mono (fun a' w' h' => heldL_any n _ a' w' h'.2) (h.2 i hi)⟩
theorem heldL_done {P : Program} {ops : Array Oper} {Q : Exit → Act → World → Prop} {S : World → Prop} {listed : Array Bool} {a : Act} {w : World} (hr : Region.ready .any ops listed = []) (h : Q .normal a w) : ∀ n, HeldL P ops Q S n listed a w
  | 0 => ⟨hr, h⟩
  | n + 1 => ⟨fun _ => h, by rw [hr]; simp⟩
/-- One that yields its value in every world of the class may be taken first. -/
theorem heldL_take {P : Program} {ops : Array Oper} {Q : Exit → Act → World → Prop} {S : World → Prop} {i : Nat} {oi : Oper} {v : Value} (hi : ops[i]? = some oi) (hs : Region.noSelect ops = true)
    (hQ : ∀ c a w, Q (.panic c) (a.put oi.dst v) w → Q (.panic c) a w) (hin : i < ops.size) (hbl : blindB ops i = false) :
    ∀ (n : Nat) (listed : Array Bool) (a : Act) (w : World), Region.free .any ops listed i = true → i ∈ Region.ready .any ops listed → YieldsIf P ops S oi v a → S w →
      HeldL P ops Q S n (listed.setIfInBounds i true) (a.put oi.dst v) w → HeldL P ops Q S (n + 1) listed a w := by
  have main : ∀ (n : Nat) (listed : Array Bool) (a : Act) (w : World),
      (∀ j oj, ops[j]? = some oj → j ≠ i → listed.getD j true = false → (∀ e ∈ oj.after, Region.binds .any e = true → e.on ≠ i) → oi.apart ops oj = true) →
      i ∈ Region.ready .any ops listed → YieldsIf P ops S oi v a → S w →
      HeldL P ops Q S n (listed.setIfInBounds i true) (a.put oi.dst v) w → HeldL P ops Q S (n + 1) listed a w := by
    intro n
    induction n with
    | zero =>
      intro listed a w _ hr hy hS H
      refine ⟨fun h => (by rw [h] at hr; cases hr), fun j hj => ?_⟩
      by_cases hji : j = i
      · subst hji; exact hy.wpOp hi hS ⟨fun _ h => h, H⟩
      · have := ready_mono hj hji
        rw [H.1] at this
        cases this
    | succ n ih =>
      intro listed a w hfree hr hy hS H
      refine ⟨fun h => (by rw [h] at hr; cases hr), fun j hj => ?_⟩
      by_cases hji : j = i
      · subst hji; exact hy.wpOp hi hS ⟨fun _ h => h, H⟩
      · obtain ⟨hjun, oj, hoj, hall⟩ := mem_ready.1 hj
        have hnot : ∀ e ∈ oj.after, Region.binds .any e = true → e.on ≠ i := by
          intro e he hb heq
          have h1 := hall e he hb
          have h0 := (mem_ready.1 hr).1
          rw [heq] at h1
          rcases Nat.lt_or_ge i listed.size with h' | h'
          · simp [h'] at h0 h1; rw [h0] at h1; cases h1
          · simp [Array.getElem?_eq_none h'] at h1
        have hl : lastB ops j = false := by
          rw [Bool.eq_false_iff]
          intro hl
          have h2 := List.all_eq_true.1 hl i (List.mem_range.2 hin)
          rw [hoj] at h2
          simp only [Bool.or_eq_true, beq_iff_eq] at h2
          rcases h2 with (h2 | h2) | h2
          · exact hji h2
          · rw [hbl] at h2; cases h2
          · obtain ⟨k, hk, h3⟩ := Array.any_eq_true.1 h2
            simp only [Bool.and_eq_true, beq_iff_eq] at h3
            exact hnot _ (Array.getElem_mem hk) h3.1 h3.2
        have sel := Region.noSelect_spec hs
        have h2 := wpOp_putIf hoj (hfree j oj hoj hji hjun hnot) (fun cs b => sel i oi cs b hi) (fun cs b => sel j oj cs b hoj) hQ hy (H.2 j (ready_mono hj hji))
        refine wpOp_mono (fun a' w' ⟨h4, h5, h6⟩ => ⟨h5, ih (listed.setIfInBounds j true) a' w' ?_ (ready_mono hr (Ne.symm hji)) h4 (h5 hl hS) ?_⟩) h2
        · intro k ok hk hki hun hno
          refine hfree k ok hk hki ?_ hno
          by_cases hjk : j = k
          · subst hjk; exact hjun
          · rw [getD_set_ne true hjk] at hun; exact hun
        · rw [Array.setIfInBounds_comm _ _ hji]
          exact h6
  exact fun n listed a w hf hr hy hS H => main n listed a w (Region.free_spec hi hf) hr hy hS H

/-- One that yields its value in every world may be taken first. -/
theorem heldL_free {P : Program} {ops : Array Oper} {Q : Exit → Act → World → Prop} {S : World → Prop} {i : Nat} {oi : Oper} {v : Value} (hi : ops[i]? = some oi) (hs : Region.noSelect ops = true)
    (hQ : ∀ c a w, Q (.panic c) (a.put oi.dst v) w → Q (.panic c) a w) :
    ∀ (n : Nat) (listed : Array Bool) (a : Act) (w : World), Region.free .any ops listed i = true → i ∈ Region.ready .any ops listed → YieldsIf P ops (fun _ => True) oi v a →
      HeldL P ops Q S n (listed.setIfInBounds i true) (a.put oi.dst v) w → HeldL P ops Q S (n + 1) listed a w := by
  have main : ∀ (n : Nat) (listed : Array Bool) (a : Act) (w : World),
      (∀ j oj, ops[j]? = some oj → j ≠ i → listed.getD j true = false → (∀ e ∈ oj.after, Region.binds .any e = true → e.on ≠ i) → oi.apart ops oj = true) →
      i ∈ Region.ready .any ops listed → YieldsIf P ops (fun _ => True) oi v a →
      HeldL P ops Q S n (listed.setIfInBounds i true) (a.put oi.dst v) w → HeldL P ops Q S (n + 1) listed a w := by
    intro n
    induction n with
    | zero =>
      intro listed a w _ hr hy H
      refine ⟨fun h => (by rw [h] at hr; cases hr), fun j hj => ?_⟩
      by_cases hji : j = i
      · subst hji; exact hy.wpOp hi trivial ⟨fun _ h => h, H⟩
      · have := ready_mono hj hji
        rw [H.1] at this
        cases this
    | succ n ih =>
      intro listed a w hfree hr hy H
      refine ⟨fun h => (by rw [h] at hr; cases hr), fun j hj => ?_⟩
      by_cases hji : j = i
      · subst hji; exact hy.wpOp hi trivial ⟨fun _ h => h, H⟩
      · obtain ⟨hjun, oj, hoj, hall⟩ := mem_ready.1 hj
        have hnot : ∀ e ∈ oj.after, Region.binds .any e = true → e.on ≠ i := by
          intro e he hb heq
          have h1 := hall e he hb
          have h0 := (mem_ready.1 hr).1
          rw [heq] at h1
          rcases Nat.lt_or_ge i listed.size with h' | h'
          · simp [h'] at h0 h1; rw [h0] at h1; cases h1
          · simp [Array.getElem?_eq_none h'] at h1
        have sel := Region.noSelect_spec hs
        have h2 := wpOp_putIf hoj (hfree j oj hoj hji hjun hnot) (fun cs b => sel i oi cs b hi) (fun cs b => sel j oj cs b hoj) hQ hy (H.2 j (ready_mono hj hji))
        refine wpOp_mono (fun a' w' ⟨h4, h5, h6⟩ => ⟨h5, ih (listed.setIfInBounds j true) a' w' ?_ (ready_mono hr (Ne.symm hji)) h4 ?_⟩) h2
        · intro k ok hk hki hun hno
          refine hfree k ok hk hki ?_ hno
          by_cases hjk : j = k
          · subst hjk; exact hjun
          · rw [getD_set_ne true hjk] at hun; exact hun
        · rw [Array.setIfInBounds_comm _ _ hji]
          exact h6
  exact fun n listed a w hf hr hy H => main n listed a w (Region.free_spec hi hf) hr hy H

inductive Tree where
  | done : Tree
  | last : Nat → Tree
  | pure : Nat → Tree → Tree
  | free : Nat → Tree → Tree
  | act : Nat → Tree → Tree
  | two : Nat → Tree → Nat → Tree → Tree

def SchedT (P : Program) (ops : Array Oper) (S : World → Prop) (K : Act → World → Prop) : Tree → Act → World → Prop
  | .done, a, w => K a w
  | .last i, a, w => wpOp P ops (OnlyNormal K) i K a w
  | .pure i t, a, w => ∃ o v, ops[i]? = some o ∧ YieldsIf P ops S o v a ∧ SchedT P ops S K t (a.put o.dst v) w
  | .free i t, a, w => ∃ o v, ops[i]? = some o ∧ YieldsIf P ops (fun _ => True) o v a ∧ SchedT P ops S K t (a.put o.dst v) w
  | .act i t, a, w => wpOp P ops (OnlyNormal K) i (fun a' w' => S w' ∧ SchedT P ops S K t a' w') a w
  | .two i t j u, a, w => wpOp P ops (OnlyNormal K) i (fun a' w' => S w' ∧ SchedT P ops S K t a' w') a w ∧ wpOp P ops (OnlyNormal K) j (fun a' w' => S w' ∧ SchedT P ops S K u a' w') a w

def treeB (ops : Array Oper) : Tree → Nat → Array Bool → Bool
  | .done, _, listed => (Region.ready .any ops listed).isEmpty
  | _, 0, _ => false
  | .last i, _ + 1, listed => decide (Region.ready .any ops listed = [i]) && lastB ops i && (Region.ready .any ops (listed.setIfInBounds i true)).isEmpty
  | .pure i t, n + 1, listed => (Region.ready .any ops listed).contains i && Region.free .any ops listed i && !blindB ops i && treeB ops t n (listed.setIfInBounds i true)
  | .free i t, n + 1, listed => (Region.ready .any ops listed).contains i && Region.free .any ops listed i && treeB ops t n (listed.setIfInBounds i true)
  | .act i t, n + 1, listed => decide (Region.ready .any ops listed = [i]) && treeB ops t n (listed.setIfInBounds i true)
  | .two i t j u, n + 1, listed => decide (Region.ready .any ops listed = [i, j]) && treeB ops t n (listed.setIfInBounds i true) && treeB ops u n (listed.setIfInBounds j true)

theorem tree_sound {P : Program} {ops : Array Oper} {S : World → Prop} {K : Act → World → Prop} (hs : Region.noSelect ops = true) :
    ∀ (τ : Tree) (n : Nat) (listed : Array Bool) (a : Act) (w : World), treeB ops τ n listed = true → S w → SchedT P ops S K τ a w →
      HeldL P ops (OnlyNormal K) S n listed a w
  | .done, n, listed, a, w, hB, _, h => heldL_done (by cases n <;> simpa [treeB] using hB) h _
  | .last _, 0, _, _, _, hB, _, _ => by simp [treeB] at hB
  | .pure _ _, 0, _, _, _, hB, _, _ => by simp [treeB] at hB
  | .free _ _, 0, _, _, _, hB, _, _ => by simp [treeB] at hB
  | .act _ _, 0, _, _, _, hB, _, _ => by simp [treeB] at hB
  | .two _ _ _ _, 0, _, _, _, hB, _, _ => by simp [treeB] at hB
  | .last i, n + 1, listed, a, w, hB, hS, h => by
    simp only [treeB, Bool.and_eq_true, decide_eq_true_eq] at hB
    refine ⟨fun h0 => by rw [h0] at hB; simp at hB, fun j hj => ?_⟩
    obtain rfl : j = i := by rw [hB.1.1] at hj; simpa using hj
    exact wpOp_mono (fun a' w' h' => ⟨fun e => (by rw [hB.1.2] at e; cases e), heldL_done (Q := OnlyNormal K) (by simpa using hB.2) h' _⟩) h
  | .pure i t, n + 1, listed, a, w, hB, hS, h => by
    obtain ⟨o, v, ho, hy, h⟩ := h
    simp only [treeB, Bool.and_eq_true, Bool.not_eq_true'] at hB
    exact heldL_take ho hs (fun _ _ _ h => h.elim) (Array.getElem?_eq_some_iff.1 ho).1 hB.1.2 n listed a w hB.1.1.2 (by simpa using hB.1.1.1) hy hS (tree_sound hs t n _ _ _ hB.2 hS h)
  | .free i t, n + 1, listed, a, w, hB, hS, h => by
    obtain ⟨o, v, ho, hy, h⟩ := h
    simp only [treeB, Bool.and_eq_true] at hB
    exact heldL_free ho hs (fun _ _ _ h => h.elim) n listed a w hB.1.2 (by simpa using hB.1.1) hy (tree_sound hs t n _ _ _ hB.2 hS h)
  | .act i t, n + 1, listed, a, w, hB, hS, h => by
    simp only [treeB, Bool.and_eq_true, decide_eq_true_eq] at hB
    refine ⟨fun h0 => by rw [h0] at hB; simp at hB, fun j hj => ?_⟩
    obtain rfl : j = i := by rw [hB.1] at hj; simpa using hj
    exact wpOp_mono (fun a' w' ⟨h1, h2⟩ => ⟨fun _ _ => h1, tree_sound hs t n _ _ _ hB.2 h1 h2⟩) h
  | .two i t j u, n + 1, listed, a, w, hB, hS, h => by
    simp only [treeB, Bool.and_eq_true, decide_eq_true_eq] at hB
    refine ⟨fun h0 => by rw [h0] at hB; simp at hB, fun k hk => ?_⟩
    rw [hB.1.1] at hk
    simp only [List.mem_cons, List.not_mem_nil, or_false] at hk
    rcases hk with rfl | rfl
    · exact wpOp_mono (fun a' w' ⟨h1, h2⟩ => ⟨fun _ _ => h1, tree_sound hs t n _ _ _ hB.1.2 h1 h2⟩) h.1
    · exact wpOp_mono (fun a' w' ⟨h1, h2⟩ => ⟨fun _ _ => h1, tree_sound hs u n _ _ _ hB.2 h1 h2⟩) h.2

theorem wp_region_tree {P : Program} {id : Nat} {ops : Array Oper} {Q : Exit → Act → World → Prop} {a : Act} {w : World} (τ : Tree) (S : World → Prop)
    (hm : P.follows .mixedOrders = true) (hs : Region.noSelect ops = true) (hB : treeB ops τ ops.size (Array.replicate ops.size false) = true) (hS : S w.drew) (h : SchedT P ops S (Q .normal) τ a w.drew) : (Code.region id ops true).wp P Q a w := by
  have h1 : (Code.region id ops true).wp P (OnlyNormal (Q .normal)) a w := wp_region_any hm (heldL_any _ _ _ _ (tree_sound hs τ _ _ a _ hB hS h))
  intro b k cs
  obtain ⟨e, a', w', hq, r⟩ := h1 b k cs
  cases e <;> first | exact ⟨_, _, _, hq, r⟩ | exact hq.elim

section
variable {P : Program} {ops : Array Oper} {S : World → Prop} {K : Act → World → Prop} {t u : Tree} {i j : Nat} {a : Act} {w : World}
theorem tree_end (h : K a w) : SchedT P ops S K .done a w := h
theorem tree_pure {o : Oper} {v : Value} (ho : ops[i]? = some o) (hw : Region.wanted o (yielded ops a.tmps) = true) (hy : ∀ w, S w → (execOp a.eval o).run P w = .ok (.value v) w)
    (h : SchedT P ops S K t (a.put o.dst v) w) : SchedT P ops S K (.pure i t) a w := ⟨o, v, ho, .inl ⟨hw, hy⟩, h⟩
theorem tree_free {o : Oper} {v : Value} (ho : ops[i]? = some o) (hw : Region.wanted o (yielded ops a.tmps) = true) (hy : ∀ w, (execOp a.eval o).run P w = .ok (.value v) w)
    (h : SchedT P ops S K t (a.put o.dst v) w) : SchedT P ops S K (.free i t) a w := ⟨o, v, ho, .inl ⟨hw, fun w _ => hy w⟩, h⟩
theorem tree_op {o : Oper} {K' : Act → World → Prop} (ho : ops[i]? = some o) (hw : Region.wanted o (yielded ops a.tmps) = true)
    (h : o.wp P a w K' (OnlyNormal K)) : wpOp P ops (OnlyNormal K) i K' a w := by
  unfold wpOp
  rw [ho]
  simp only [hw, if_true]
  exact .inl h
theorem tree_last {o : Oper} (ho : ops[i]? = some o) (hw : Region.wanted o (yielded ops a.tmps) = true) (h : o.wp P a w K (OnlyNormal K)) : SchedT P ops S K (.last i) a w := tree_op ho hw h
theorem tree_idle {o : Oper} (ho : ops[i]? = some o) (hw : Region.wanted o (yielded ops a.tmps) = false) (h : SchedT P ops S K t (a.put o.dst undef) w) : SchedT P ops S K (.pure i t) a w := ⟨o, undef, ho, .inr ⟨hw, rfl⟩, h⟩
theorem tree_idle_act {o : Oper} (ho : ops[i]? = some o) (hw : Region.wanted o (yielded ops a.tmps) = false) (hS : S w) (h : SchedT P ops S K t (a.put o.dst undef) w) : SchedT P ops S K (.act i t) a w := by
  show wpOp P ops _ i _ a w
  unfold wpOp
  rw [ho]
  simp only [hw, Bool.false_eq_true, if_false]
  exact ⟨hS, h⟩
theorem tree_act {o : Oper} (ho : ops[i]? = some o) (hw : Region.wanted o (yielded ops a.tmps) = true)
    (h : o.wp P a w (fun a' w' => S w' ∧ SchedT P ops S K t a' w') (OnlyNormal K)) : SchedT P ops S K (.act i t) a w := tree_op ho hw h
theorem tree_two {o o' : Oper} (ho : ops[i]? = some o) (hw : Region.wanted o (yielded ops a.tmps) = true) (ho' : ops[j]? = some o') (hw' : Region.wanted o' (yielded ops a.tmps) = true)
    (h : o.wp P a w (fun a' w' => S w' ∧ SchedT P ops S K t a' w') (OnlyNormal K)) (h' : o'.wp P a w (fun a' w' => S w' ∧ SchedT P ops S K u a' w') (OnlyNormal K)) : SchedT P ops S K (.two i t j u) a w :=
  ⟨tree_op ho hw h, tree_op ho' hw' h'⟩
end
end Late
end Go.Proofs.Ytedckelfdkfkoaa
