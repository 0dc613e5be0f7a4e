/- The plain law: turned and flipped tiles are the same pixels at other places; how many there are of a colour. -/
import Derived.Test.YtedckelfdkfkoaaE
import Derived.Test.YtedckelfdkfkoaaI
import Derived.Test.YtedckelfdkfkoaaG
namespace Go.Proofs.Ytedckelfdkfkoaa
open Go.RowKit

def flipT (T : List Col) : List Col := moveT T z0 (fun x y => (7 - x, y))
/-- a tile whose pixels stand elsewhere -/
def permT (σ : Nat → Nat) (T : List Col) : List Col := (List.range 64).map fun j => atT T (σ j)
def flipI (j : Nat) : Nat := j / 8 * 8 + (7 - j % 8)
def turnI (j : Nat) : Nat := (7 - j % 8) * 8 + j / 8
def permI (σ : Nat → Nat) : List Nat := (List.range 64).map σ
theorem permT_length (σ : Nat → Nat) (T : List Col) : (permT σ T).length = 64 := by simp [permT]
theorem permT_at {σ : Nat → Nat} {T : List Col} {j : Nat} (h : j < 64) : atT (permT σ T) j = atT T (σ j) := by
  unfold permT; conv => lhs; unfold atT
  rw [List.getD_eq_getElem?_getD, List.getElem?_map, List.getElem?_range h]; rfl
theorem flipT_eq (g : Nat → Col) : foldT (fun p => ((7 - p.1, p.2), g (p.2 * 8 + p.1).toNat)) (List.replicate 64 z0) placesL = (List.range 64).map fun j => g (flipI j) := by kernel_rfl
theorem turnT_eq (g : Nat → Col) : foldT (fun p => ((7 - p.2, p.1), g (p.2 * 8 + p.1).toNat)) (List.replicate 64 z0) placesL = (List.range 64).map fun j => g (turnI j) := by kernel_rfl
theorem flipT_perm (T : List Col) : flipT T = permT flipI T := flipT_eq (atT T)
theorem turnT_perm (T : List Col) : turnT T = permT turnI T := turnT_eq (atT T)
theorem permT_permT {σ τ : Nat → Nat} (T : List Col) (h : ∀ j, j < 64 → σ j < 64) : permT σ (permT τ T) = permT (fun j => τ (σ j)) T := by
  unfold permT
  refine List.map_congr_left fun j hj => ?_
  exact permT_at (h j (List.mem_range.1 hj))
theorem permT_congr {σ τ : Nat → Nat} (T : List Col) (h : ∀ j, j < 64 → σ j = τ j) : permT σ T = permT τ T := by
  unfold permT
  exact List.map_congr_left fun j hj => by rw [h j (List.mem_range.1 hj)]
theorem permT_id {T : List Col} (hT : T.length = 64) : permT id T = T := tile_ext (by rw [permT_length, hT]) fun k hk => permT_at (by rw [permT_length] at hk; exact hk)
theorem flipI_lt : ∀ j, j < 64 → flipI j < 64 := by unfold flipI; omega
theorem turnI_lt : ∀ j, j < 64 → turnI j < 64 := by unfold turnI; omega
theorem flip_flip {T : List Col} (hT : T.length = 64) : flipT (flipT T) = T := by
  rw [flipT_perm, flipT_perm, permT_permT _ flipI_lt]
  refine (permT_congr T fun j hj => ?_).trans (permT_id hT)
  unfold flipI; simp only [id]; omega
theorem turnsT_add (m n : Nat) (T : List Col) : turnsT m (turnsT n T) = turnsT (n + m) T := by
  induction n generalizing T with
  | zero => rw [Nat.zero_add]; rfl
  | succ n ih => rw [show n + 1 + m = (n + m) + 1 by omega]; exact ih (turnT T)
theorem turns4 {T : List Col} (hT : T.length = 64) : turnsT 4 T = T := by
  show turnT (turnT (turnT (turnT T))) = T
  rw [turnT_perm T, turnT_perm (permT _ _), turnT_perm (permT _ _), turnT_perm (permT _ _), permT_permT _ turnI_lt, permT_permT _ turnI_lt, permT_permT T (fun j hj => turnI_lt _ (turnI_lt _ hj))]
  refine (permT_congr T fun j hj => ?_).trans (permT_id hT)
  unfold turnI; simp only [id]; omega
theorem flip_turn (T : List Col) : flipT (turnT (flipT (turnT T))) = permT id T := by
  rw [turnT_perm T, flipT_perm (permT _ _), turnT_perm (permT _ _), flipT_perm (permT _ _), permT_permT _ flipI_lt, permT_permT _ flipI_lt, permT_permT T (fun j hj => turnI_lt _ (flipI_lt _ hj))]
  have h : ∀ j ∈ List.range 64, turnI (flipI (turnI (flipI j))) = id j := by decide +kernel
  exact permT_congr T fun j hj => h j (List.mem_range.2 hj)
theorem turnT_length (T : List Col) : (turnT T).length = 64 := moveT_length _ _ _
theorem flipT_length (T : List Col) : (flipT T).length = 64 := moveT_length _ _ _
/-- turned, and flipped: as flipped, and turned the other way round -/
theorem turn_flip_turn {T : List Col} (hT : T.length = 64) : turnT (flipT (turnT T)) = flipT T := by
  have h := flip_turn T
  rw [permT_id hT] at h
  rw [← h, flip_flip (turnT_length _), h]
theorem turns_flip_turns : ∀ (n : Nat) (T : List Col), T.length = 64 → turnsT n (flipT (turnsT n T)) = flipT T
  | 0, _, _ => rfl
  | n + 1, T, hT => by
    have e : turnsT (n + 1) T = turnsT n (turnT T) := rfl
    have e2 : ∀ X, turnsT (n + 1) X = turnT (turnsT n X) := by
      intro X
      have := turnsT_add 1 n X
      exact this.symm
    rw [e2, e, turns_flip_turns n (turnT T) (turnT_length _)]
    exact turn_flip_turn hT
theorem flip_turns {T : List Col} (hT : T.length = 64) {n m : Nat} (h : n + m = 4 ∨ n + m = 0) : flipT (turnsT n T) = turnsT m (flipT T) := by
  have h1 := turns_flip_turns n T hT
  have hl : (flipT (turnsT n T)).length = 64 := flipT_length _
  rw [← h1, turnsT_add]
  rcases h with h | h
  · rw [h, turns4 hl]
  · rw [h]; rfl
theorem turns_back {T : List Col} (hT : T.length = 64) {n m : Nat} (h : n + m = 4 ∨ n + m = 0) : turnsT m (turnsT n T) = T := by
  rw [turnsT_add]
  rcases h with h | h
  · rw [h, turns4 hT]
  · rw [h]; rfl
theorem quart_neg (q : Int) : quartN q + quartN (-q) = 4 ∨ quartN q + quartN (-q) = 0 := by
  have h := tmod4 q
  unfold quartN
  rw [Int.neg_tmod]
  omega
theorem quart4 : quartN 4 = 0 := by decide

/-! ### How many there are of a colour -/
theorem manyN_countF (c : Col) : ∀ T : List Col, manyN countF c T = T.countP (fun d => decide (d = c))
  | [] => rfl
  | d :: T => by
    have ih := manyN_countF c T
    show (if (countF c d).1 = true then 1 else 0) + manyN countF (countF c d).2 T = _
    rw [show (countF c d).2 = c from rfl, ih, List.countP_cons]
    unfold countF
    by_cases h : d = c <;> simp [h] <;> omega
theorem permT_same {σ : Nat → Nat} (hσ : (permI σ).Perm (List.range 64)) {T : List Col} (hT : T.length = 64) : (permT σ T).Perm T := by
  have h := hσ.map (atT T)
  have e1 : (permI σ).map (atT T) = permT σ T := by unfold permI permT; rw [List.map_map]; rfl
  have e2 : (List.range 64).map (atT T) = T := permT_id hT
  rw [e1, e2] at h
  exact h
theorem flipI_perm : (permI flipI).Perm (List.range 64) := by decide +kernel
theorem turnI_perm : (permI turnI).Perm (List.range 64) := by decide +kernel
theorem flipT_same {T : List Col} (hT : T.length = 64) : (flipT T).Perm T := by rw [flipT_perm]; exact permT_same flipI_perm hT
theorem turnsT_same : ∀ (n : Nat) (T : List Col), T.length = 64 → (turnsT n T).Perm T
  | 0, _, _ => List.Perm.refl _
  | n + 1, T, hT => (turnsT_same n (turnT T) (turnT_length _)).trans (by rw [turnT_perm]; exact permT_same turnI_perm hT)
theorem count_same {T T' : List Col} (h : T.Perm T') (c : Col) : manyN countF c T = manyN countF c T' := by
  rw [manyN_countF, manyN_countF]; exact h.countP_eq _
theorem count_pos {T : List Col} {c : Col} (h : c ∈ T) : 1 ≤ manyN countF c T := by
  rw [manyN_countF]; exact List.countP_pos_iff.2 ⟨c, h, by simp⟩
theorem firsts_same {T T' : List Col} (h : T.Perm T') : (firstsL T).length = (firstsL T').length := by
  have hp : (firstsL T).Perm (firstsL T') := (List.perm_ext_iff_of_nodup (firstsL_nodup T) (firstsL_nodup T')).2 fun a => by rw [firstsL_sub, firstsL_sub]; exact h.mem_iff
  exact hp.length_eq
theorem firsts_by {T : List Col} (hb : ∀ c ∈ T, ByC c) : ∀ c ∈ firstsL T, ByC c := fun c hc => hb c ((firstsL_sub T c).1 hc)
theorem flipT_any (T : List Col) (w : World) (hT : T.length = 64) :
    Calls Try.prog 36 #[.agg (tileA T)] w fun e w' => e = .returned (.agg (tileA (flipT T))) ∧ Below w.heap.size w w' := flip_any T w hT
end Go.Proofs.Ytedckelfdkfkoaa
