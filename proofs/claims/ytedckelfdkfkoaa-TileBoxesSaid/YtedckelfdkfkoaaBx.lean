/- The plain law: the document's box is the box. -/
import Derived.Test.YtedckelfdkfkoaaR3
import Derived.Test.YtedckelfdkfkoaaO
namespace Go.Proofs.Ytedckelfdkfkoaa
open Go.RowKit

theorem placesL_rows : placesL.Pairwise (fun p q => p.2 ≤ q.2) := by
  unfold placesL
  rw [List.pairwise_map]
  exact List.pairwise_lt_range.imp fun {a b} h => by simp only []; omega

/-- the two tellings, side by side -/
def BoxRel (s : Col × Bool) (B : Col) : Prop := (s = ((0, 0, 0, 0), false) ∧ B = (8, 8, -1, -1)) ∨ s = (B, true)
theorem box_fold (T T' : List Col) : ∀ (l : List (Int × Int)) (s : Col × Bool) (B : Col), l.Pairwise (fun p q => p.2 ≤ q.2) → (∀ p ∈ l, 0 ≤ p.1 ∧ p.1 < 8 ∧ 0 ≤ p.2 ∧ p.2 < 8) → BoxRel s B →
    (s.2 = true → ∀ p ∈ l, B.2.1 ≤ p.2 ∧ B.2.2.2 ≤ p.2) →
    BoxRel (l.foldl (rboxStep T T') s) (l.foldl (boxStep T T') B) ∧ ((l.foldl (rboxStep T T') s).2 = true ↔ s.2 = true ∨ ∃ p ∈ l, atT T (p.2 * 8 + p.1).toNat ≠ atT T' (p.2 * 8 + p.1).toNat)
  | [], s, B, _, _, h, _ => ⟨h, by simp⟩
  | p :: l, s, B, hp, hb, hr, ho => by
    obtain ⟨x, y⟩ := p
    obtain ⟨h1, h2⟩ := List.pairwise_cons.1 hp
    have hb1 := hb (x, y) List.mem_cons_self
    have hb2 : ∀ p ∈ l, 0 ≤ p.1 ∧ p.1 < 8 ∧ 0 ≤ p.2 ∧ p.2 < 8 := fun p hp => hb p (List.mem_cons_of_mem _ hp)
    simp only [List.foldl_cons]
    by_cases hd : atT T (y * 8 + x).toNat = atT T' (y * 8 + x).toNat
    · have e1 : rboxStep T T' s (x, y) = s := by unfold rboxStep; rw [if_pos hd]
      have e2 : boxStep T T' B (x, y) = B := by unfold boxStep; rw [if_pos hd]
      rw [e1, e2]
      obtain ⟨r1, r2⟩ := box_fold T T' l s B h2 hb2 hr fun e p hp => ho e p (List.mem_cons_of_mem _ hp)
      refine ⟨r1, r2.trans ?_⟩
      constructor
      · rintro (h | ⟨p, hp, hn⟩)
        · exact .inl h
        · exact .inr ⟨p, List.mem_cons_of_mem _ hp, hn⟩
      · rintro (h | ⟨p, hp, hn⟩)
        · exact .inl h
        · rcases List.mem_cons.1 hp with rfl | hp
          · exact absurd hd hn
          · exact .inr ⟨p, hp, hn⟩
    · obtain ⟨C, e1, e2, h3⟩ : ∃ C : Col, rboxStep T T' s (x, y) = (C, true) ∧ boxStep T T' B (x, y) = C ∧ ∀ p ∈ l, C.2.1 ≤ p.2 ∧ C.2.2.2 ≤ p.2 := by
        rcases hr with ⟨rfl, rfl⟩ | rfl
        · refine ⟨(x, y, x, y), ?_, ?_, fun p hp => ⟨h1 p hp, h1 p hp⟩⟩
          · unfold rboxStep; rw [if_neg hd]; simp
          · unfold boxStep; rw [if_neg hd]
            simp only [] at hb1 ⊢
            rw [show min (8 : Int) x = x by omega, show min (8 : Int) y = y by omega, show max (-1 : Int) x = x by omega, show max (-1 : Int) y = y by omega]
        · obtain ⟨B0, B1, B2, B3⟩ := B
          have ho1 := ho rfl (x, y) List.mem_cons_self
          simp only [] at ho1
          refine ⟨(min B0 x, B1, max B2 x, y), ?_, ?_, fun p hp => ⟨(ho rfl p (List.mem_cons_of_mem _ hp)).1, h1 p hp⟩⟩
          · unfold rboxStep; rw [if_neg hd]
            simp only [if_true]
            rw [show (if x < B0 then x else B0) = min B0 x by split <;> omega, show (if B2 < x then x else B2) = max B2 x by split <;> omega]
          · unfold boxStep; rw [if_neg hd]
            simp only []
            rw [show min B1 y = B1 by omega, show max B3 y = y by omega]
      rw [e1, e2]
      obtain ⟨r1, r2⟩ := box_fold T T' l (C, true) C h2 hb2 (.inr rfl) fun _ => h3
      refine ⟨r1, r2.trans ⟨fun _ => .inr ⟨(x, y), List.mem_cons_self, hd⟩, fun _ => .inl rfl⟩⟩

theorem tiles_ext {T T' : List Col} (hT : T.length = 64) (hT' : T'.length = 64) (h : ∀ p ∈ placesL, atT T (p.2 * 8 + p.1).toNat = atT T' (p.2 * 8 + p.1).toNat) : T = T' := by
  apply List.ext_getElem? 
  intro k
  by_cases hk : k < 64
  · have hp := List.mem_of_getElem? (placesL_at hk)
    have e := h _ hp
    have i : (((k / 8 : Nat) : Int) * 8 + ((k % 8 : Nat) : Int)).toNat = k := by omega
    simp only [i] at e
    rw [atT_eq (by omega), atT_eq (by omega), e]
  · rw [List.getElem?_eq_none (by omega), List.getElem?_eq_none (by omega)]

theorem rboxV_eq {T T' : List Col} (hT : T.length = 64) (hT' : T'.length = 64) : rboxV T T' = boxV T T' := by
  obtain ⟨r1, r2⟩ := box_fold T T' placesL ((0, 0, 0, 0), false) (8, 8, -1, -1) placesL_rows (fun p hp => placesL_mem hp) (.inl ⟨rfl, rfl⟩) (fun h => by cases h)
  unfold rboxV boxV
  by_cases he : T = T'
  · rw [if_pos he]
    subst he
    rcases r1 with ⟨e, _⟩ | e
    · exact e
    · have : (placesL.foldl (rboxStep T T) ((0, 0, 0, 0), false) : Col × Bool).2 = true := by rw [e]
      rcases r2.1 this with h | ⟨p, _, h⟩
      · cases h
      · exact absurd rfl h
  · rw [if_neg he]
    rcases r1 with ⟨e, _⟩ | e
    · exact absurd (tiles_ext hT hT' fun p hp => by
        by_cases hd : atT T (p.2 * 8 + p.1).toNat = atT T' (p.2 * 8 + p.1).toNat
        · exact hd
        · have := r2.2 (.inr ⟨p, hp, hd⟩)
          rw [e] at this
          cases this) he
    · exact e
end Go.Proofs.Ytedckelfdkfkoaa
