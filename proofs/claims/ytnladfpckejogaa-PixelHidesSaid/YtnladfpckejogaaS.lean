/- A region that draws its order, by a tree of schedules: where two operations may come next, both ways are walked. No program in sight. -/
import Derived.Test.YtnladfpckejogaaF
namespace Go.Proofs.Ytnladfpckejogaa
open Go.RowKit

inductive Tree where
  | done : Tree
  | pure : Nat → Tree → Tree
  | act : Nat → Tree → Tree
  | two : Nat → Tree → Nat → Tree → Tree

def SchedT (P : Program) (ops : Array Oper) (S : World → Prop) (K : Act → World → Prop) : Tree → Act → World → Prop
  | .done, a, w => K a w
  | .pure i t, a, w => ∃ o v, ops[i]? = some o ∧ YieldsIf P ops S o v a ∧ SchedT P ops S K t (a.put o.dst v) w
  | .act i t, a, w => wpOp P ops (OnlyNormal K) i (fun a' w' => S w' ∧ SchedT P ops S K t a' w') a w
  | .two i t j u, a, w => wpOp P ops (OnlyNormal K) i (fun a' w' => S w' ∧ SchedT P ops S K t a' w') a w ∧ wpOp P ops (OnlyNormal K) j (fun a' w' => S w' ∧ SchedT P ops S K u a' w') a w

def treeB (ops : Array Oper) : Tree → Nat → Array Bool → Bool
  | .done, _, listed => (Region.ready .any ops listed).isEmpty
  | _, 0, _ => false
  | .pure i t, n + 1, listed => (Region.ready .any ops listed).contains i && Region.free .any ops listed i && treeB ops t n (listed.setIfInBounds i true)
  | .act i t, n + 1, listed => decide (Region.ready .any ops listed = [i]) && treeB ops t n (listed.setIfInBounds i true)
  | .two i t j u, n + 1, listed => decide (Region.ready .any ops listed = [i, j]) && treeB ops t n (listed.setIfInBounds i true) && treeB ops u n (listed.setIfInBounds j true)

theorem tree_sound {P : Program} {ops : Array Oper} {S : World → Prop} {K : Act → World → Prop} (hs : Region.noSelect ops = true) :
    ∀ (τ : Tree) (n : Nat) (listed : Array Bool) (a : Act) (w : World), treeB ops τ n listed = true → S w → SchedT P ops S K τ a w →
      wpAnyH P .any ops (OnlyNormal K) S n listed a w
  | .done, n, listed, a, w, hB, _, h => wpAnyH_done (by cases n <;> simpa [treeB] using hB) h _
  | .pure _ _, 0, _, _, _, hB, _, _ => by simp [treeB] at hB
  | .act _ _, 0, _, _, _, hB, _, _ => by simp [treeB] at hB
  | .two _ _ _ _, 0, _, _, _, hB, _, _ => by simp [treeB] at hB
  | .pure i t, n + 1, listed, a, w, hB, hS, h => by
    obtain ⟨o, v, ho, hy, h⟩ := h
    simp only [treeB, Bool.and_eq_true] at hB
    exact wpAnyH_take ho hs hB.1.2 hB.1.1 (fun _ _ _ h => h.elim) hy hS (tree_sound hs t n _ _ _ hB.2 hS h)
  | .act i t, n + 1, listed, a, w, hB, hS, h => by
    simp only [treeB, Bool.and_eq_true, decide_eq_true_eq] at hB
    refine wpAnyH_all hB.1 (by simp) fun j hj => ?_
    obtain rfl : j = i := by simpa using hj
    exact wpOp_mono (fun a' w' ⟨h1, h2⟩ => ⟨h1, tree_sound hs t n _ _ _ hB.2 h1 h2⟩) h
  | .two i t j u, n + 1, listed, a, w, hB, hS, h => by
    simp only [treeB, Bool.and_eq_true, decide_eq_true_eq] at hB
    refine wpAnyH_all hB.1.1 (by simp) fun k hk => ?_
    simp only [List.mem_cons, List.not_mem_nil, or_false] at hk
    rcases hk with rfl | rfl
    · exact wpOp_mono (fun a' w' ⟨h1, h2⟩ => ⟨h1, tree_sound hs t n _ _ _ hB.1.2 h1 h2⟩) h.1
    · exact wpOp_mono (fun a' w' ⟨h1, h2⟩ => ⟨h1, tree_sound hs u n _ _ _ hB.2 h1 h2⟩) h.2

theorem wp_region_tree {P : Program} {id : Nat} {ops : Array Oper} {Q : Exit → Act → World → Prop} {a : Act} {w : World} (τ : Tree) (S : World → Prop)
    (hm : P.follows .mixedOrders = true) (hs : Region.noSelect ops = true) (hB : treeB ops τ ops.size (Array.replicate ops.size false) = true) (hS : S w.drew) (h : SchedT P ops S (Q .normal) τ a w.drew) : (Code.region id ops true).wp P Q a w := by
  have h1 : (Code.region id ops true).wp P (OnlyNormal (Q .normal)) a w := wp_region_any hm (wpAny_of_held _ _ _ _ (tree_sound hs τ _ _ a _ hB hS h))
  intro b k cs
  obtain ⟨e, a', w', hq, r⟩ := h1 b k cs
  cases e <;> first | exact ⟨_, _, _, hq, r⟩ | exact hq.elim

section
variable {P : Program} {ops : Array Oper} {S : World → Prop} {K : Act → World → Prop} {t u : Tree} {i j : Nat} {a : Act} {w : World}
theorem tree_end (h : K a w) : SchedT P ops S K .done a w := h
theorem tree_pure {o : Oper} {v : Value} (ho : ops[i]? = some o) (hw : Region.wanted o (yielded ops a.tmps) = true) (hy : ∀ w, S w → (execOp a.eval o).run P w = .ok (.value v) w)
    (h : SchedT P ops S K t (a.put o.dst v) w) : SchedT P ops S K (.pure i t) a w := ⟨o, v, ho, .inl ⟨hw, hy⟩, h⟩
theorem tree_op {o : Oper} {K' : Act → World → Prop} (ho : ops[i]? = some o) (hw : Region.wanted o (yielded ops a.tmps) = true)
    (h : o.wp P a w K' (OnlyNormal K)) : wpOp P ops (OnlyNormal K) i K' a w := by
  unfold wpOp
  rw [ho]
  simp only [hw, if_true]
  exact .inl h
theorem tree_act {o : Oper} (ho : ops[i]? = some o) (hw : Region.wanted o (yielded ops a.tmps) = true)
    (h : o.wp P a w (fun a' w' => S w' ∧ SchedT P ops S K t a' w') (OnlyNormal K)) : SchedT P ops S K (.act i t) a w := tree_op ho hw h
theorem tree_two {o o' : Oper} (ho : ops[i]? = some o) (hw : Region.wanted o (yielded ops a.tmps) = true) (ho' : ops[j]? = some o') (hw' : Region.wanted o' (yielded ops a.tmps) = true)
    (h : o.wp P a w (fun a' w' => S w' ∧ SchedT P ops S K t a' w') (OnlyNormal K)) (h' : o'.wp P a w (fun a' w' => S w' ∧ SchedT P ops S K u a' w') (OnlyNormal K)) : SchedT P ops S K (.two i t j u) a w :=
  ⟨tree_op ho hw h, tree_op ho' hw' h'⟩
end
end Go.Proofs.Ytnladfpckejogaa
