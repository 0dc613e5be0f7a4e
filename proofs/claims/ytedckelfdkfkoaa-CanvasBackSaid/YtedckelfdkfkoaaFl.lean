/- Drawn regions whose first part makes blocks or calls (F), where some of its operations only look at what others left and nothing waits for them: these are taken as soon as they may come. No program in sight. -/
import Derived.Test.YtedckelfdkfkoaaF
namespace Go.Proofs.Ytedckelfdkfkoaa
open Go.RowKit

section
variable {P : Program} {ops : Array Oper}

/-- The walk of the first part, in the text's order. -/
def FWalkL (P : Program) (ops : Array Oper) (late : Nat → Bool) (w0 : World) (K : (Nat → Nat) → Act → World → Prop) (b : Nat → Nat) (all : List Kd) : List Kd → Nat → Act → Prop
  | [], _, a => ∀ w', Below w0.heap.size w0 w' → (∀ j v o, all[j]? = some (v, some o) → w0.heap.size ≤ b j ∧ Has w' (b j) o) →
      (∀ j k v o v' o', j ≠ k → all[j]? = some (v, some o) → all[k]? = some (v', some o') → b j ≠ b k) → K b a w'
  | (v, none) :: r, i, a => ((late i = true ∧ ∀ o, ops[i]? = some o → YieldsIf P ops (fun _ => True) o (v 0) a) ∨
      (late i = false ∧ ∀ w', Below w0.heap.size w0 w' → (∀ j v o, Region.waitsFor .any ops i j = true → all[j]? = some (v, some o) → w0.heap.size ≤ b j ∧ Has w' (b j) o) →
      ∀ o, ops[i]? = some o → YieldsQ P ops o (v 0) a w')) ∧ FWalkL P ops late w0 K b all r (i + 1) (a.put (dstOf ops i) (v 0))
  | (v, some ob) :: r, i, a => (late i = false ∧ ∀ o, ops[i]? = some o → Region.wanted o (yielded ops a.tmps) = true ∧ ∀ w', (execOp a.eval o).run P w' = .ok (.value (v w'.heap.size)) (w'.alloc ob)) ∧
      FWalkL P ops late w0 K b all r (i + 1) (a.put (dstOf ops i) (v (b i)))

/-- What is asked of the region's text. -/
def freshLB (ops : Array Oper) (n : Nat) (late : Nat → Bool) (σ : List (Nat × Bool)) : Bool :=
  Region.noSelect ops && decide (n < ops.size) &&
  ((List.range ops.size).all fun j => decide (j < n) || (List.range n).all fun i => late i || Region.waitsFor .any ops j i) &&
  ((List.range n).all fun i => (List.range n).all fun j =>
    (i == j || (match dstOf ops i with | some d => dstOf ops j != some d | none => true)) &&
    (match ops[i]? with
     | some o => (match dstOf ops j with | some d => !(o.looksAt ops).contains d || Region.waitsFor .any ops i j | none => true)
     | none => true) && (!Region.waitsFor .any ops i j || decide (j < i))) &&
  ((List.range n).all fun i => match ops[i]? with | some o => o.after.all fun e => !Region.binds .any e || decide (e.on < i) | none => true) &&
  ((List.range n).all fun i => !late i || match ops[i]? with
    | some oi => (List.range ops.size).all fun j => j == i || Region.waitsFor .any ops i j || match ops[j]? with
      | some oj => oj.after.any (fun e => Region.binds .any e && e.on == i) || oi.apart ops oj
      | none => true
    | none => false) &&
  decide (σ.length + n = ops.size) && schedB ops σ ((List.range n).foldl (fun l i => l.setIfInBounds i true) (Array.replicate ops.size false))

def FOpL (P : Program) (ops : Array Oper) (late : Nat → Bool) (w0 : World) (b : Nat → Nat) (all : List Kd) (k : Nat) (a : Act) : Prop :=
  match all[k]? with
  | none => True
  | some (v, none) => (late k = true ∧ ∀ o, ops[k]? = some o → YieldsIf P ops (fun _ => True) o (v 0) a) ∨ (late k = false ∧ ∀ w', Below w0.heap.size w0 w' → (∀ j v o, Region.waitsFor .any ops k j = true → all[j]? = some (v, some o) → w0.heap.size ≤ b j ∧ Has w' (b j) o) →
      ∀ o, ops[k]? = some o → YieldsQ P ops o (v 0) a w')
  | some (v, some ob) => late k = false ∧ ∀ o, ops[k]? = some o → Region.wanted o (yielded ops a.tmps) = true ∧ ∀ w', (execOp a.eval o).run P w' = .ok (.value (v w'.heap.size)) (w'.alloc ob)

theorem FWalkL.parts {late : Nat → Bool} {w0 : World} {K : (Nat → Nat) → Act → World → Prop} {b : Nat → Nat} {all : List Kd} : ∀ (l : List Kd) (i : Nat) (a : Act), (∀ j, l[j]? = all[i + j]?) → FWalkL P ops late w0 K b all l i a →
    (∀ m, m < l.length → FOpL P ops late w0 b all (i + m) (putL ops all b (fun _ => true) ((List.range m).map (i + ·)) a)) ∧
    FEnd w0 K b all (putL ops all b (fun _ => true) ((List.range l.length).map (i + ·)) a)
  | [], i, a, _, h => ⟨fun m hm => by simp at hm, h⟩
  | (v, k) :: l, i, a, hl, h => by
    have h0 : all[i]? = some (v, k) := by have := hl 0; simpa using this.symm
    have hrest : FWalkL P ops late w0 K b all l (i + 1) (a.put (dstOf ops i) (valOf all b i)) := by
      cases k with
      | none => rw [valOf_none h0]; exact h.2
      | some ob => rw [valOf_some h0]; exact h.2
    have ih := FWalkL.parts l (i + 1) _ (fun j => by have := hl (j + 1); simpa [Nat.add_assoc, Nat.add_comm 1 j] using this) hrest
    have shift : ∀ m, putL ops all b (fun _ => true) ((List.range (m + 1)).map (i + ·)) a = putL ops all b (fun _ => true) ((List.range m).map (i + 1 + ·)) (a.put (dstOf ops i) (valOf all b i)) := by
      intro m
      have e : (List.range (m + 1)).map (i + ·) = i :: (List.range m).map (i + 1 + ·) := by
        rw [List.range_succ_eq_map, List.map_cons, List.map_map, Nat.add_zero]
        congr 1
        refine List.map_congr_left fun x _ => ?_
        simp; omega
      rw [e]
      rfl
    refine ⟨fun m hm => ?_, by rw [List.length_cons, shift]; exact ih.2⟩
    cases m with
    | zero =>
      show FOpL P ops late w0 b all (i + 0) a
      unfold FOpL
      rw [Nat.add_zero, h0]
      cases k with
      | none => exact h.1
      | some ob => exact h.1
    | succ m =>
      rw [shift, show i + (m + 1) = i + 1 + m by omega]
      exact ih.1 m (by simpa using hm)

theorem anyH_of_any {Q : Exit → Act → World → Prop} : ∀ (n : Nat) (listed : Array Bool) (a : Act) (w : World), wpAny P .any ops Q n listed a w → wpAnyH P .any ops Q (fun _ => True) n listed a w
  | 0, _, _, _, h => h
  | n + 1, _, _, _, h => ⟨h.1, fun i hi => wpOp_mono (fun a' w' h' => ⟨trivial, anyH_of_any n _ a' w' h'⟩) (h.2 i hi)⟩

theorem freshL_any {n : Nat} {late : Nat → Bool} {σ : List (Nat × Bool)} {w0 : World} {a0 : Act} {all : List Kd} {S : (Nat → Nat) → World → Prop} {K : Act → World → Prop} (hB : freshLB ops n late σ = true) (hlen : all.length = n)
    (hw : ∀ b, FWalkL P ops late w0 (fun b a w => S b w ∧ Sched P ops (S b) K σ a w) b all all 0 a0) :
    wpAny P .any ops (OnlyNormal K) ops.size (Array.replicate ops.size false) a0 w0 := by
  simp only [freshLB, Bool.and_eq_true, decide_eq_true_eq] at hB
  obtain ⟨⟨⟨⟨⟨⟨⟨hsel, hn⟩, hwait⟩, hpair⟩, hdep⟩, hlate⟩, hσ⟩, hsched⟩ := hB
  have pair : ∀ i j, i < n → j < n → _ := fun i j hi hj => List.all_eq_true.1 (List.all_eq_true.1 hpair i (List.mem_range.2 hi)) j (List.mem_range.2 hj)
  have hd : Dist ops n := by
    intro i j hi hj hij d hdi hdj
    have := pair i j hi hj
    simp only [Bool.and_eq_true] at this
    have h1 := this.1.1
    rw [hdi, hdj] at h1
    simp [hij] at h1
  have look : ∀ i j, i < n → j < n → ∀ o, ops[i]? = some o → ∀ d, dstOf ops j = some d → d ∈ o.looksAt ops → Region.waitsFor .any ops i j = true := by
    intro i j hi hj o ho d hdj hm
    have := pair i j hi hj
    simp only [Bool.and_eq_true] at this
    have h1 := this.1.2
    rw [ho, hdj] at h1
    simp [hm] at h1
    exact h1
  have lt : ∀ i j, i < n → j < n → Region.waitsFor .any ops i j = true → j < i := by
    intro i j hi hj hwf
    have := pair i j hi hj
    simp only [Bool.and_eq_true] at this
    have h1 := this.2
    rw [hwf] at h1
    simpa using h1
  have waitT : ∀ j i, n ≤ j → j < ops.size → i < n → late i = false → Region.waitsFor .any ops j i = true := by
    intro j i hj hjs hi hl
    have h1 := List.all_eq_true.1 hwait j (List.mem_range.2 hjs)
    simp only [Bool.or_eq_true, decide_eq_true_eq] at h1
    rcases h1 with h1 | h1
    · omega
    · have h2 := List.all_eq_true.1 h1 i (List.mem_range.2 hi)
      rw [hl] at h2
      simpa using h2
  have main : ∀ (m : Nat) (listed : Array Bool) (b : Nat → Nat) (a : Act) (w : World), FState ops n w0 all a0 b listed a w → undone listed n = m → wpAnyH P .any ops (OnlyNormal K) (fun _ => True) (m + σ.length) listed a w := by
    intro m
    induction m with
    | zero =>
      intro listed b a w st hu
      have hall := undone_zero hu
      have hend := (FWalkL.parts all 0 a0 (fun j => by simp) (hw b)).2
      have ea : a = putL ops all b (fun _ => true) ((List.range all.length).map (0 + ·)) a0 := by
        rw [st.act, hlen]
        simp only [Nat.zero_add, List.map_id']
        exact putL_congr _ _ (fun j hj => hall j (List.mem_range.1 hj)) (fun _ _ _ => rfl)
      rw [← ea] at hend
      have inall : ∀ j v o, all[j]? = some (v, some o) → listed.getD j false = true := fun j v o h => hall j (by have := (List.getElem?_eq_some_iff.1 h).1; omega)
      obtain ⟨hS, hK⟩ := hend w st.below (fun j v o h => st.fresh j v o (inall j v o h) h) (fun j k v o v' o' hjk h h' => st.dist j k v o v' o' hjk (inall j v o h) (inall k v' o' h') h h')
      have el : listed = (List.range n).foldl (fun l i => l.setIfInBounds i true) (Array.replicate ops.size false) := by
        apply Array.ext
        · rw [foldl_set_size, st.head.size]; simp
        · intro j h1 h2
          have hj : j < ops.size := by rw [← st.head.size]; exact h1
          have g1 : listed[j] = listed.getD j false := by simp [h1]
          have g2 : ((List.range n).foldl (fun l i => l.setIfInBounds i true) (Array.replicate ops.size false))[j] = ((List.range n).foldl (fun l i => l.setIfInBounds i true) (Array.replicate ops.size false)).getD j false := by simp [h2]
          rw [g1, g2, foldl_set_getD _ _ _ (by simpa using hj)]
          by_cases hjn : j < n
          · rw [hall j hjn]; simp [hjn]
          · have := getD_both (st.head.tail j (by omega) hj)
            rw [this, getD_replicate_false]; simp [hjn]
      rw [Nat.zero_add, el]
      exact anyH_of_any _ _ _ _ (wpAny_of_held _ _ _ _ (sched_sound hsel σ _ a w hsched hS hK))
    | succ m ih =>
      intro listed b a w st hu
      obtain ⟨i0, hi0, h00, hlow⟩ := undone_pos hu
      have hsz0 : i0 < listed.size := by rw [st.head.size]; omega
      have hm0 : i0 ∈ Region.ready .any ops listed := by
        have hio : i0 < ops.size := by omega
        rw [mem_ready]
        refine ⟨getD_in hsz0 h00, ops[i0], Array.getElem?_eq_getElem hio, fun e hem hb => ?_⟩
        have h1 := List.all_eq_true.1 hdep i0 (List.mem_range.2 hi0)
        rw [Array.getElem?_eq_getElem hio] at h1
        have h2 := (Array.all_eq_true_iff_forall_mem.1 h1) e hem
        rw [hb] at h2
        exact hlow _ (by simpa using h2)
      have hne : Region.ready .any ops listed ≠ [] := fun he => by rw [he] at hm0; cases hm0
      have agree : ∀ i, i < n → ∀ o, ops[i]? = some o → (∀ j, Region.waitsFor .any ops i j = true → listed.getD j false = true) → Agree (o.looksAt ops) a (putL ops all b (fun _ => true) ((List.range i).map (0 + ·)) a0) := by
        intro i hin o ho waits
        have e1 : putL ops all b (fun _ => true) ((List.range i).map (0 + ·)) a0 = putL ops all b (fun j => decide (j < i)) (List.range n) a0 := by
          rw [putL_prefix (by omega)]; simp
        rw [e1, st.act]
        refine putL_agree _ _ _ ⟨rfl, fun _ _ => rfl⟩ fun j hj t ht hdj => ?_
        have hjn := List.mem_range.1 hj
        have hwf := look i j hin hjn o ho t hdj ht
        exact ⟨waits j hwf, by simpa using lt i j hin hjn hwf⟩
      rw [show m + 1 + σ.length = (m + σ.length) + 1 by omega]
      by_cases hex : ∃ i, i < n ∧ late i = true ∧ i ∈ Region.ready .any ops listed
      · obtain ⟨i, hin, hli, hi⟩ := hex
        obtain ⟨hi1, o, ho, hdeps⟩ := mem_ready.1 hi
        have hi0' : listed.getD i false = false := getD_both hi1
        have hisz : i < listed.size := by rw [st.head.size]; omega
        have waits : ∀ j, Region.waitsFor .any ops i j = true → listed.getD j false = true := fun j hj => by
          obtain ⟨o', ho', e, he, hb, hon⟩ := Region.waitsFor_spec hj
          rw [ho] at ho'; cases ho'
          rw [← hon]; exact hdeps e he hb
        have hag := agree i hin o ho waits
        have hsel' : ∀ cs bb, o.op ≠ .select cs bb := fun cs bb => Region.noSelect_spec hsel i o cs bb ho
        have hdst : dstOf ops i = o.dst := by unfold dstOf; rw [ho]; rfl
        have hfop := (FWalkL.parts all 0 a0 (fun j => by simp) (hw b)).1 i (by omega)
        rw [Nat.zero_add] at hfop
        unfold FOpL at hfop
        obtain ⟨k, hk⟩ : ∃ k, all[i]? = some k := ⟨all[i]'(by omega), List.getElem?_eq_getElem (by omega)⟩
        obtain ⟨v, ko⟩ := k
        rw [hk] at hfop
        have unset : undone (listed.setIfInBounds i true) n = m := by have := undone_set hisz hi0' hin; omega
        have gset : ∀ j, j ≠ i → (listed.setIfInBounds i true).getD j false = listed.getD j false := fun j hj => getD_set_ne false (Ne.symm hj)
        have gi : (listed.setIfInBounds i true).getD i false = true := by simp [hisz]
        cases ko with
        | some ob => rw [hfop.1] at hli; cases hli
        | none =>
          rcases hfop with ⟨_, hy⟩ | ⟨hl, _⟩
          · have hy' : YieldsIf P ops (fun _ => True) o (v 0) a := by
              rcases hy o ho with ⟨h1, h2⟩ | ⟨h1, h2⟩
              · exact .inl ⟨by rw [Agree.wanted hag]; exact h1, fun w' hw' => by rw [Agree.exec hag hsel']; exact h2 w' hw'⟩
              · exact .inr ⟨by rw [Agree.wanted hag]; exact h1, h2⟩
            have hfree : Region.free .any ops listed i = true := by
              have h1 := List.all_eq_true.1 hlate i (List.mem_range.2 hin)
              rw [hli, ho] at h1
              simp only [Bool.not_true, Bool.false_or] at h1
              unfold Region.free
              rw [ho]
              simp only [List.all_eq_true, List.mem_range] at h1 ⊢
              intro j hj
              have h2 := h1 j hj
              simp only [Bool.or_eq_true] at h2 ⊢
              rcases h2 with (h2 | h2) | h2
              · exact .inl (.inl h2)
              · have := waits j h2
                refine .inl (.inr ?_)
                rcases Nat.lt_or_ge j listed.size with h' | h'
                · simp [h'] at this ⊢; exact this
                · simp [Array.getElem?_eq_none h'] 
              · exact .inr h2
            refine wpAnyH_take ho hsel hfree (by simpa using hi) (fun _ _ _ h => h.elim) hy' trivial ?_
            refine ih _ b _ _ ⟨st.head.set hi hin, ?_, st.below, ?_, ?_⟩ unset
            · rw [putL_set hd hin hi0' gi gset, ← st.act, hdst, valOf_none hk]
            · intro j v' o' hj hj'
              have hji : j ≠ i := by rintro rfl; rw [hk] at hj'; cases hj'
              rw [gset j hji] at hj
              exact st.fresh j v' o' hj hj'
            · intro j k v1 o1 v2 o2 hjk hj hk2 hj' hk2'
              have hji : j ≠ i := by rintro rfl; rw [hk] at hj'; cases hj'
              have hki : k ≠ i := by rintro rfl; rw [hk] at hk2'; cases hk2'
              rw [gset j hji] at hj; rw [gset k hki] at hk2
              exact st.dist j k v1 o1 v2 o2 hjk hj hk2 hj' hk2'
          · rw [hl] at hli; cases hli
      · have hlate0 : late i0 = false := by
          cases hc : late i0 with
          | false => rfl
          | true => exact absurd ⟨i0, hi0, hc, hm0⟩ hex
        refine ⟨fun h => absurd h hne, fun i hi => ?_⟩
        obtain ⟨hi1, o, ho, hdeps⟩ := mem_ready.1 hi
        have his : i < ops.size := (Array.getElem?_eq_some_iff.1 ho).1
        have waits : ∀ j, Region.waitsFor .any ops i j = true → listed.getD j false = true := fun j hj => by
          obtain ⟨o', ho', e, he, hb, hon⟩ := Region.waitsFor_spec hj
          rw [ho] at ho'; cases ho'
          rw [← hon]; exact hdeps e he hb
        have hin : i < n := by
          rcases Nat.lt_or_ge i n with h | h
          · exact h
          · have := waits i0 (waitT i i0 h his hi0 hlate0)
            rw [h00] at this; cases this
        have hi0' : listed.getD i false = false := getD_both hi1
        have hisz : i < listed.size := by rw [st.head.size]; omega
        have hag := agree i hin o ho waits
        have hsel' : ∀ cs bb, o.op ≠ .select cs bb := fun cs bb => Region.noSelect_spec hsel i o cs bb ho
        have hdst : dstOf ops i = o.dst := by unfold dstOf; rw [ho]; rfl
        have hfop := (FWalkL.parts all 0 a0 (fun j => by simp) (hw b)).1 i (by omega)
        rw [Nat.zero_add] at hfop
        unfold FOpL at hfop
        obtain ⟨k, hk⟩ : ∃ k, all[i]? = some k := ⟨all[i]'(by omega), List.getElem?_eq_getElem (by omega)⟩
        obtain ⟨v, ko⟩ := k
        rw [hk] at hfop
        have unset : undone (listed.setIfInBounds i true) n = m := by have := undone_set hisz hi0' hin; omega
        have gset : ∀ j, j ≠ i → (listed.setIfInBounds i true).getD j false = listed.getD j false := fun j hj => getD_set_ne false (Ne.symm hj)
        have gi : (listed.setIfInBounds i true).getD i false = true := by simp [hisz]
        cases ko with
        | none =>
          have hy : YieldsQ P ops o (v 0) (putL ops all b (fun _ => true) ((List.range i).map (0 + ·)) a0) w := by
            rcases hfop with ⟨hl, _⟩ | ⟨_, hy⟩
            · exact absurd ⟨i, hin, hl, hi⟩ hex
            · exact hy w st.below (fun j v' o' hwf hj => st.fresh j v' o' (waits j hwf) hj) o ho
          have next : ∀ w', Below w.heap.size w w' → True ∧ wpAnyH P .any ops (OnlyNormal K) (fun _ => True) (m + σ.length) (listed.setIfInBounds i true) (a.put o.dst (v 0)) w' := by
            intro w' hb
            refine ⟨trivial, ih _ b _ _ ⟨st.head.set hi hin, ?_, ?_, ?_, ?_⟩ unset⟩
            · rw [putL_set hd hin hi0' gi gset, ← st.act, hdst, valOf_none hk]
            · exact ⟨hb.os.trans st.below.os, hb.tape.trans st.below.tape, hb.output.trans st.below.output, Nat.le_trans st.below.size hb.size, fun k hk' => (hb.block k (Nat.lt_of_lt_of_le hk' st.below.size)).trans (st.below.block k hk')⟩
            · intro j v' o' hj hj'
              have hji : j ≠ i := by rintro rfl; rw [hk] at hj'; cases hj'
              rw [gset j hji] at hj
              obtain ⟨f1, f2⟩ := st.fresh j v' o' hj hj'
              exact ⟨f1, f2.below hb f2.lt⟩
            · intro j k v1 o1 v2 o2 hjk hj hk2 hj' hk2'
              have hji : j ≠ i := by rintro rfl; rw [hk] at hj'; cases hj'
              have hki : k ≠ i := by rintro rfl; rw [hk] at hk2'; cases hk2'
              rw [gset j hji] at hj; rw [gset k hki] at hk2
              exact st.dist j k v1 o1 v2 o2 hjk hj hk2 hj' hk2'
          unfold wpOp
          rw [ho]
          simp only
          have hwant := Agree.wanted hag
          rcases hy with ⟨hwt, hrun⟩ | ⟨hwt, hv⟩
          · rw [hwant, hwt, if_pos rfl]
            refine .inl ?_
            unfold Oper.wp
            rw [Agree.exec hag hsel']
            rcases hrun with hrun | ⟨f, args, hrun, hcall⟩
            · rw [hrun]; exact next w (Below.refl _ _)
            · rw [hrun]; exact hcall.mono fun e w' ⟨he, hb⟩ => by subst he; exact next w' hb
          · rw [hwant, hwt, if_neg (by simp), ← hv]; exact next w (Below.refl _ _)
        | some ob =>
          obtain ⟨_, hfop⟩ := hfop
          obtain ⟨hwt, hrun⟩ := hfop o ho
          have next : True ∧ wpAnyH P .any ops (OnlyNormal K) (fun _ => True) (m + σ.length) (listed.setIfInBounds i true) (a.put o.dst (v w.heap.size)) (w.alloc ob) := by
            have hb' : ∀ j, j ≠ i → (fun j => if j = i then w.heap.size else b j) j = b j := fun j hj => by simp [hj]
            refine ⟨trivial, ih _ (fun j => if j = i then w.heap.size else b j) _ _ ⟨st.head.set hi hin, ?_, ?_, ?_, ?_⟩ unset⟩
            · rw [putL_set hd hin hi0' gi gset, hdst, valOf_some hk]
              simp only [if_true]
              congr 1
              rw [st.act]
              exact putL_congr _ _ (fun _ _ => rfl) (fun j _ hj => (hb' j (by rintro rfl; rw [hi0'] at hj; cases hj)).symm)
            · exact st.below.alloc st.below.size _
            · intro j v' o' hj hj'
              by_cases hji : j = i
              · subst hji
                rw [hk] at hj'; cases hj'
                simp only [if_true]
                exact ⟨st.below.size, Has.new _ _⟩
              · rw [gset j hji] at hj
                obtain ⟨f1, f2⟩ := st.fresh j v' o' hj hj'
                simp only [hji, if_false]
                exact ⟨f1, f2.alloc _⟩
            · intro j k v1 o1 v2 o2 hjk hj hk2 hj' hk2'
              by_cases hji : j = i
              · subst hji
                have hki : k ≠ j := Ne.symm hjk
                rw [gset k hki] at hk2
                have := (st.fresh k v2 o2 hk2 hk2').2.lt
                simp only [if_true, hki, if_false]
                omega
              · by_cases hki : k = i
                · subst hki
                  rw [gset j hji] at hj
                  have := (st.fresh j v1 o1 hj hj').2.lt
                  simp only [if_true, hji, if_false]
                  omega
                · rw [gset j hji] at hj; rw [gset k hki] at hk2
                  simp only [hji, hki, if_false]
                  exact st.dist j k v1 o1 v2 o2 hjk hj hk2 hj' hk2'
          unfold wpOp
          rw [ho]
          simp only
          rw [Agree.wanted hag, hwt, if_pos rfl]
          refine .inl ?_
          unfold Oper.wp
          rw [Agree.exec hag hsel', hrun]
          exact next
  have st0 : FState ops n w0 all a0 (fun _ => 0) (Array.replicate ops.size false) a0 w0 :=
    ⟨⟨by simp, fun j oj _ hl => (by rw [getD_replicate_false] at hl; cases hl), fun t _ ht => getD_in (by simpa using ht) (getD_replicate_false _ _)⟩,
      (putL_none _ _ (fun i _ => getD_replicate_false _ _)).symm, Below.refl _ _, fun j v o h => (by rw [getD_replicate_false] at h; cases h), fun j k v o v' o' _ h => (by rw [getD_replicate_false] at h; cases h)⟩
  have hu : undone (Array.replicate ops.size false) n = n := by
    unfold undone
    rw [List.filter_eq_self.2 (fun i _ => by rw [getD_replicate_false]; rfl)]
    simp
  have := wpAny_of_held _ _ _ _ (main n _ _ _ _ st0 hu)
  rwa [show n + σ.length = ops.size by omega] at this

/-- In a plain walk. -/
theorem wp_region_freshL {id : Nat} {Q : Exit → Act → World → Prop} {a : Act} {w : World} (n : Nat) (σ : List (Nat × Bool)) (late : List Nat) (all : List Kd) (S : (Nat → Nat) → World → Prop)
    (hm : P.follows .mixedOrders = true) (hB : freshLB ops n late.contains σ = true) (hlen : all.length = n)
    (hw : ∀ b, FWalkL P ops late.contains w.drew (fun b a w => S b w ∧ Sched P ops (S b) (Q .normal) σ a w) b all all 0 a) : (Code.region id ops true).wp P Q a w := by
  have h1 : (Code.region id ops true).wp P (OnlyNormal (Q .normal)) a w := wp_region_any hm (freshL_any hB hlen hw)
  intro b k cs
  obtain ⟨e, a', w', hq, r⟩ := h1 b k cs
  cases e <;> first | exact ⟨_, _, _, hq, r⟩ | exact hq.elim

/-- In a round's walk. -/
theorem wpIn_region_freshL {l id : Nat} {Q : Exit → Act → World → Prop} {a : Act} {w : World} (n : Nat) (σ : List (Nat × Bool)) (late : List Nat) (all : List Kd) (S : (Nat → Nat) → World → Prop)
    (hm : P.follows .mixedOrders = true) (hd : Region.noDefer ops = true) (hB : freshLB ops n late.contains σ = true) (hlen : all.length = n)
    (hw : ∀ b, FWalkL P ops late.contains w.drew (fun b a w => S b w ∧ Sched P ops (S b) (Q .normal) σ a w) b all all 0 a) : (Code.region id ops true).wpIn (Fence.wide.inRound l) 0 P Q a w :=
  wpIn_mono (wpIn_region_any hm (wpAnyIn_of_wpAny hd _ _ _ _ (freshL_any hB hlen hw))) fun e a' w' hq => by
    cases e <;> first | exact hq | exact hq.elim
end

section
variable {P : Program} {ops : Array Oper} {late : Nat → Bool} {w0 : World} {K : (Nat → Nat) → Act → World → Prop} {b : Nat → Nat} {all r : List Kd} {i : Nat} {a : Act} {v : Nat → Value}
/-- The steps of such a walk. -/
theorem freshL_late {o : Oper} (hl : late i = true) (ho : ops[i]? = some o) (hw : Region.wanted o (yielded ops a.tmps) = true) (hy : ∀ w', (execOp a.eval o).run P w' = .ok (.value (v 0)) w')
    (h : FWalkL P ops late w0 K b all r (i + 1) (a.put o.dst (v 0))) : FWalkL P ops late w0 K b all ((v, none) :: r) i a :=
  ⟨.inl ⟨hl, fun o' ho' => by rw [ho] at ho'; cases ho'; exact .inl ⟨hw, fun w' _ => hy w'⟩⟩, by rw [show dstOf ops i = o.dst by unfold dstOf; rw [ho]; rfl]; exact h⟩
theorem freshL_pure {o : Oper} (hl : late i = false) (ho : ops[i]? = some o) (hw : Region.wanted o (yielded ops a.tmps) = true) (hy : ∀ w', Below w0.heap.size w0 w' → (execOp a.eval o).run P w' = .ok (.value (v 0)) w')
    (h : FWalkL P ops late w0 K b all r (i + 1) (a.put o.dst (v 0))) : FWalkL P ops late w0 K b all ((v, none) :: r) i a :=
  ⟨.inr ⟨hl, fun w' hB _ o' ho' => by rw [ho] at ho'; cases ho'; exact .inl ⟨hw, .inl (hy w' hB)⟩⟩, by rw [show dstOf ops i = o.dst by unfold dstOf; rw [ho]; rfl]; exact h⟩
theorem freshL_look {o : Oper} (hl : late i = false) (ho : ops[i]? = some o) (hw : Region.wanted o (yielded ops a.tmps) = true)
    (hy : ∀ w', Below w0.heap.size w0 w' → (∀ j v o, Region.waitsFor .any ops i j = true → all[j]? = some (v, some o) → w0.heap.size ≤ b j ∧ Has w' (b j) o) → (execOp a.eval o).run P w' = .ok (.value (v 0)) w')
    (h : FWalkL P ops late w0 K b all r (i + 1) (a.put o.dst (v 0))) : FWalkL P ops late w0 K b all ((v, none) :: r) i a :=
  ⟨.inr ⟨hl, fun w' hB hA o' ho' => by rw [ho] at ho'; cases ho'; exact .inl ⟨hw, .inl (hy w' hB hA)⟩⟩, by rw [show dstOf ops i = o.dst by unfold dstOf; rw [ho]; rfl]; exact h⟩
theorem freshL_call {o : Oper} {f : FuncId} {args : Array Value} (hl : late i = false) (ho : ops[i]? = some o) (hw : Region.wanted o (yielded ops a.tmps) = true)
    (hr : ∀ w', Below w0.heap.size w0 w' → (∀ j v o, Region.waitsFor .any ops i j = true → all[j]? = some (v, some o) → w0.heap.size ≤ b j ∧ Has w' (b j) o) → (execOp a.eval o).run P w' = .ok (.enter f args) w')
    (hc : ∀ w', Below w0.heap.size w0 w' → (∀ j v o, Region.waitsFor .any ops i j = true → all[j]? = some (v, some o) → w0.heap.size ≤ b j ∧ Has w' (b j) o) → Calls P f args w' fun e w'' => e = .returned (v 0) ∧ Below w'.heap.size w' w'')
    (h : FWalkL P ops late w0 K b all r (i + 1) (a.put o.dst (v 0))) : FWalkL P ops late w0 K b all ((v, none) :: r) i a :=
  ⟨.inr ⟨hl, fun w' hB hA o' ho' => by rw [ho] at ho'; cases ho'; exact .inl ⟨hw, .inr ⟨f, args, hr w' hB hA, hc w' hB hA⟩⟩⟩, by rw [show dstOf ops i = o.dst by unfold dstOf; rw [ho]; rfl]; exact h⟩
theorem freshL_idle {o : Oper} (hl : late i = false) (ho : ops[i]? = some o) (hw : Region.wanted o (yielded ops a.tmps) = false) (hv : v 0 = undef)
    (h : FWalkL P ops late w0 K b all r (i + 1) (a.put o.dst undef)) : FWalkL P ops late w0 K b all ((v, none) :: r) i a :=
  ⟨.inr ⟨hl, fun _ _ _ o' ho' => by rw [ho] at ho'; cases ho'; exact .inr ⟨hw, hv⟩⟩, by rw [show dstOf ops i = o.dst by unfold dstOf; rw [ho]; rfl, hv]; exact h⟩
theorem freshL_new {o : Oper} {ob : Obj} (hl : late i = false) (ho : ops[i]? = some o) (hw : Region.wanted o (yielded ops a.tmps) = true) (hy : ∀ w', (execOp a.eval o).run P w' = .ok (.value (v w'.heap.size)) (w'.alloc ob))
    (h : FWalkL P ops late w0 K b all r (i + 1) (a.put o.dst (v (b i)))) : FWalkL P ops late w0 K b all ((v, some ob) :: r) i a :=
  ⟨⟨hl, fun o' ho' => by rw [ho] at ho'; cases ho'; exact ⟨hw, hy⟩⟩, by rw [show dstOf ops i = o.dst by unfold dstOf; rw [ho]; rfl]; exact h⟩
theorem freshL_end (h : ∀ w', Below w0.heap.size w0 w' → (∀ j v o, all[j]? = some (v, some o) → w0.heap.size ≤ b j ∧ Has w' (b j) o) →
      (∀ j k v o v' o', j ≠ k → all[j]? = some (v, some o) → all[k]? = some (v', some o') → b j ≠ b k) → K b a w') : FWalkL P ops late w0 K b all [] i a := h
end
end Go.Proofs.Ytedckelfdkfkoaa
