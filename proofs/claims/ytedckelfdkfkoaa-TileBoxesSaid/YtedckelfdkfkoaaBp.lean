/- The plain law: the least box holds what differs; it is the same from either side. -/
import Derived.Test.YtedckelfdkfkoaaBx
import Derived.Test.YtedckelfdkfkoaaR1
namespace Go.Proofs.Ytedckelfdkfkoaa
open Go.RowKit

theorem boxStep_comm (T T' : List Col) : boxStep T T' = boxStep T' T := by
  funext B p
  unfold boxStep
  by_cases h : atT T (p.2 * 8 + p.1).toNat = atT T' (p.2 * 8 + p.1).toNat
  · rw [if_pos h, if_pos h.symm]
  · rw [if_neg h, if_neg (fun e => h e.symm)]
theorem boxV_comm (T T' : List Col) : boxV T T' = boxV T' T := by
  unfold boxV
  by_cases h : T = T'
  · rw [if_pos h, if_pos h.symm]
  · rw [if_neg h, if_neg (fun e => h e.symm), boxStep_comm]
/-- is the place within the box? -/
def inB (B : Col) (p : Int × Int) : Prop := B.1 ≤ p.1 ∧ p.1 ≤ B.2.2.1 ∧ B.2.1 ≤ p.2 ∧ p.2 ≤ B.2.2.2
theorem box_holds (T T' : List Col) : ∀ (l : List (Int × Int)) (B : Col), (∀ q, inB B q → inB (l.foldl (boxStep T T') B) q) ∧
    ∀ p ∈ l, atT T (p.2 * 8 + p.1).toNat ≠ atT T' (p.2 * 8 + p.1).toNat → inB (l.foldl (boxStep T T') B) p
  | [], B => ⟨fun q h => h, fun p hp => by simp at hp⟩
  | p :: l, B => by
    obtain ⟨h1, h2⟩ := box_holds T T' l (boxStep T T' B p)
    have hw : ∀ q, inB B q → inB (boxStep T T' B p) q := by
      intro q hq
      unfold boxStep
      split
      · exact hq
      · unfold inB at hq ⊢; simp only []; omega
    refine ⟨fun q hq => h1 q (hw q hq), fun q hq hd => ?_⟩
    rcases List.mem_cons.1 hq with rfl | hq
    · refine h1 _ ?_
      unfold boxStep
      rw [if_neg hd]
      unfold inB; simp only []; omega
    · exact h2 q hq hd
theorem boxV_holds {T T' : List Col} {B : Col} (h : boxV T T' = (B, true)) {k : Nat} (hk : k < 64) (hd : atT T k ≠ atT T' k) : inB B (((k % 8 : Nat) : Int), ((k / 8 : Nat) : Int)) := by
  unfold boxV at h
  split at h
  · cases h
  · obtain rfl : (placesL.foldl (boxStep T T') (8, 8, -1, -1) : Col) = B := by injection h
    refine (box_holds T T' placesL _).2 _ (List.mem_of_getElem? (placesL_at hk)) ?_
    have i : (((k / 8 : Nat) : Int) * 8 + ((k % 8 : Nat) : Int)).toNat = k := by omega
    simp only [i]
    exact hd
theorem boxV_no {T T' : List Col} {B : Col} (h : boxV T T' = (B, false)) : T = T' ∧ B = (0, 0, 0, 0) := by
  unfold boxV at h
  split at h
  · rename_i e; injection h with h1 _; exact ⟨e, h1.symm⟩
  · cases h
/-- the patched tile after k places -/
def patchT (T T' : List Col) (k : Nat) : List Col := T'.take k ++ T.drop k
theorem patchT_length {T T' : List Col} (hT : T.length = 64) (hT' : T'.length = 64) {k : Nat} (hk : k ≤ 64) : (patchT T T' k).length = 64 := by unfold patchT; simp; omega
theorem patchT_zero (T T' : List Col) : patchT T T' 0 = T := by simp [patchT]
theorem patchT_end {T T' : List Col} (hT : T.length = 64) (hT' : T'.length = 64) : patchT T T' 64 = T' := by
  unfold patchT; rw [List.drop_eq_nil_of_le (by omega), List.append_nil, List.take_of_length_le (by omega)]
theorem patchT_set {T T' : List Col} (hT : T.length = 64) (hT' : T'.length = 64) {k : Nat} (hk : k < 64) : (patchT T T' k).set k (atT T' k) = patchT T T' (k + 1) := by
  unfold patchT
  have l1 : (T'.take k).length = k := by rw [List.length_take]; omega
  rw [List.set_append_right _ _ (by omega), l1, Nat.sub_self, drop_atT (by omega), List.set_cons_zero, ← take_snoc (atT_eq (by omega : k < T'.length)), List.append_assoc]
  rfl
theorem patchT_same {T T' : List Col} (hT : T.length = 64) (hT' : T'.length = 64) {k : Nat} (hk : k < 64) (h : atT T k = atT T' k) : patchT T T' k = patchT T T' (k + 1) := by
  unfold patchT
  rw [drop_atT (by omega), ← take_snoc (atT_eq (by omega : k < T'.length)), List.append_assoc, h]
  rfl
end Go.Proofs.Ytedckelfdkfkoaa
