/- The plain law: counts of colours come to the number of pixels; runs; shifted there and back. -/
import Derived.Test.YtedckelfdkfkoaaPk
namespace Go.Proofs.Ytedckelfdkfkoaa
open Go.RowKit

/-! ### Sums of counts -/
def sumL (l : List Nat) : Nat := l.foldr (· + ·) 0
def countsL (T : List Col) (L : List Col) : Nat := sumL (L.map fun c => manyN countF c T)
theorem sumL_append (l l' : List Nat) : sumL (l ++ l') = sumL l + sumL l' := by
  induction l with
  | nil => simp [sumL]
  | cons a l ih => simp only [sumL, List.cons_append, List.foldr_cons] at *; omega
theorem countsL_snoc (T L : List Col) (c : Col) : countsL T (L ++ [c]) = countsL T L + manyN countF c T := by
  unfold countsL; rw [List.map_append, sumL_append]; simp [sumL]
theorem countsL_take {T L : List Col} {k : Nat} {c : Col} (h : L[k]? = some c) : countsL T (L.take (k + 1)) = countsL T (L.take k) + manyN countF c T := by
  rw [← take_snoc h, countsL_snoc]
theorem count_cons (c d : Col) (T : List Col) : manyN countF c (d :: T) = (if d = c then 1 else 0) + manyN countF c T := by
  rw [manyN_countF, manyN_countF, List.countP_cons]
  by_cases h : d = c <;> simp [h] <;> omega
theorem ones_at (d : Col) : ∀ L : List Col, L.Nodup → sumL (L.map fun c => if d = c then 1 else 0) = if d ∈ L then 1 else 0
  | [], _ => rfl
  | c :: L, h => by
    obtain ⟨h1, h2⟩ := List.nodup_cons.1 h
    have ih := ones_at d L h2
    simp only [sumL, List.map_cons, List.foldr_cons] at *
    rw [ih]
    by_cases e : d = c
    · subst e; simp [h1]
    · simp [e]
theorem sumL_add (f g : Col → Nat) : ∀ L : List Col, sumL (L.map fun c => f c + g c) = sumL (L.map f) + sumL (L.map g)
  | [] => rfl
  | c :: L => by have := sumL_add f g L; simp only [sumL, List.map_cons, List.foldr_cons] at *; omega
theorem countsL_all (L : List Col) (hL : L.Nodup) : ∀ T : List Col, (∀ c ∈ T, c ∈ L) → countsL T L = T.length
  | [], _ => by
    unfold countsL
    have : ∀ L : List Col, sumL (L.map fun c => manyN countF c []) = 0 := by
      intro L; induction L with
      | nil => rfl
      | cons c L ih => simp only [sumL, List.map_cons, List.foldr_cons] at *; rw [ih]; rfl
    exact this L
  | d :: T, h => by
    have ih := countsL_all L hL T (fun c hc => h c (by simp [hc]))
    unfold countsL at *
    have e : (L.map fun c => manyN countF c (d :: T)) = L.map fun c => (if d = c then 1 else 0) + manyN countF c T := List.map_congr_left fun c _ => count_cons c d T
    rw [e, sumL_add, ih, ones_at d L hL, if_pos (h d (by simp)), List.length_cons]; omega
theorem countsL_firsts (T : List Col) : countsL T (firstsL T) = T.length := countsL_all _ (firstsL_nodup T) T fun c hc => (firstsL_sub T c).2 hc
theorem sumL_take_le (l : List Nat) (k : Nat) : sumL (l.take k) ≤ sumL l := by
  have h := sumL_append (l.take k) (l.drop k)
  rw [List.take_append_drop] at h; omega
theorem countsL_le (T : List Col) (k : Nat) : countsL T ((firstsL T).take k) ≤ T.length := by
  rw [← countsL_firsts T]
  unfold countsL
  rw [← List.map_take.symm]
  exact sumL_take_le _ _
theorem firsts_new {T : List Col} {k : Nat} {c : Col} (h : (firstsL T)[k]? = some c) : c ∉ (firstsL T).take k := by
  intro hm
  obtain ⟨j, hj⟩ := List.getElem?_of_mem hm
  rw [List.getElem?_take] at hj
  split at hj
  · rename_i hlt
    have hk := (List.getElem?_eq_some_iff.1 h).1
    have := (List.getElem?_inj (by omega) (firstsL_nodup T)).1 (hj.trans h.symm)
    omega
  · cases hj

/-! ### Runs and colours -/
theorem nodup_le : ∀ {L M : List Col}, L.Nodup → (∀ c ∈ L, c ∈ M) → L.length ≤ M.length
  | [], _, _, _ => by simp
  | c :: L, M, h, hs => by
    obtain ⟨h1, h2⟩ := List.nodup_cons.1 h
    have hc := hs c (by simp)
    have := nodup_le (M := M.erase c) h2 fun d hd => by
      have hne : d ≠ c := by rintro rfl; exact h1 hd
      exact (List.mem_erase_of_ne hne).2 (hs d (by simp [hd]))
    rw [List.length_erase_of_mem hc] at this
    have := List.length_pos_of_mem hc
    simp only [List.length_cons]; omega
theorem firsts_runs : ∀ (s : Col) (l : List Col), (firstsL (s :: l)).length ≤ 1 + manyN runsF s l
  | s, [] => by simp [firstsL, manyN]
  | s, c :: l => by
    have ih := firsts_runs c l
    by_cases h : c = s
    · subst h
      have e1 : manyN runsF c (c :: l) = manyN runsF c l := by rw [manyN]; simp [runsF]
      rw [e1]
      refine Nat.le_trans (nodup_le (firstsL_nodup _) fun d hd => ?_) ih
      rw [firstsL_sub] at hd ⊢
      simpa using hd
    · have e1 : manyN runsF s (c :: l) = 1 + manyN runsF c l := by rw [manyN]; simp [runsF, h]
      rw [e1]
      refine Nat.le_trans (nodup_le (M := s :: firstsL (c :: l)) (firstsL_nodup _) fun d hd => ?_) (by simp only [List.length_cons]; omega)
      rw [firstsL_sub] at hd
      rcases List.mem_cons.1 hd with rfl | hd
      · simp
      · exact List.mem_cons_of_mem _ ((firstsL_sub _ _).2 hd)
theorem runs_none : ∀ (s : Col) (l : List Col), (∀ c ∈ l, c = s) → manyN runsF s l = 0
  | _, [], _ => rfl
  | s, c :: l, h => by
    obtain rfl := h c (by simp)
    have ih := runs_none c l fun d hd => h d (by simp [hd])
    rw [manyN]; simp [runsF, ih]
theorem runs_facts {T : List Col} (hT : T.length = 64) : (firstsL T).length ≤ 1 + manyN runsF (atT T 0) T ∧ ((1 + manyN runsF (atT T 0) T = 1) ↔ ((firstsL T).length = 1)) := by
  match T, hT with
  | t :: l, hT =>
    have e0 : atT (t :: l) 0 = t := rfl
    have e1 : manyN runsF t (t :: l) = manyN runsF t l := by rw [manyN]; simp [runsF]
    rw [e0, e1]
    have h1 := firsts_runs t l
    have h2 : 1 ≤ (firstsL (t :: l)).length := List.length_pos_of_mem ((firstsL_sub (t :: l) t).2 (by simp))
    refine ⟨h1, fun h => by omega, fun h => ?_⟩
    have h3 : manyN runsF t l = 0 := by
      refine runs_none t l fun c hc => ?_
      have m1 := (firstsL_sub (t :: l) t).2 (by simp)
      have m2 := (firstsL_sub (t :: l) c).2 (by simp [hc])
      match firstsL (t :: l), h, m1, m2 with
      | [x], _, m1, m2 => simp at m1 m2; rw [m1, m2]
    omega

/-! ### Shifted -/
theorem foldT_none (f : Int × Int → (Int × Int) × Col) : ∀ (l : List (Int × Int)) (T : List Col) (j : Nat), T.length = 64 → (∀ p ∈ l, isB (f p).1.1 (f p).1.2 = true → ((f p).1.2 * 8 + (f p).1.1).toNat ≠ j) → atT (foldT f T l) j = atT T j
  | [], _, _, _, _ => rfl
  | p :: l, T, j, hT, h => by
    have ih := foldT_none f l (putT T (f p).1.1 (f p).1.2 (f p).2) j (by rw [putT_length, hT]) fun q hq => h q (by simp [hq])
    show atT (foldT f (putT T _ _ _) l) j = _
    rw [ih]
    unfold putT
    split
    · rename_i hb
      obtain ⟨a, b, ha, hb', e1, e2⟩ := isB_true hb
      rw [atT_set (by rw [e1, e2]; omega), if_neg (fun e => h p (by simp) hb e.symm)]
    · rfl
theorem foldT_some (f : Int × Int → (Int × Int) × Col) (c : Col) : ∀ (l : List (Int × Int)) (T : List Col) (j : Nat), T.length = 64 →
    (∀ p ∈ l, isB (f p).1.1 (f p).1.2 = true → ((f p).1.2 * 8 + (f p).1.1).toNat = j → (f p).2 = c) → (∃ p ∈ l, isB (f p).1.1 (f p).1.2 = true ∧ ((f p).1.2 * 8 + (f p).1.1).toNat = j) → atT (foldT f T l) j = c
  | [], _, _, _, _, ⟨p, hp, _⟩ => by simp at hp
  | p :: l, T, j, hT, h, ⟨q, hq, hb, hj⟩ => by
    show atT (foldT f (putT T _ _ _) l) j = _
    by_cases hl : ∃ p ∈ l, isB (f p).1.1 (f p).1.2 = true ∧ ((f p).1.2 * 8 + (f p).1.1).toNat = j
    · exact foldT_some f c l _ j (by rw [putT_length, hT]) (fun p hp => h p (by simp [hp])) hl
    · rw [foldT_none f l _ j (by rw [putT_length, hT]) fun r hr hb' e => hl ⟨r, hr, hb', e⟩]
      rcases List.mem_cons.1 hq with rfl | hq
      · obtain ⟨a, b, ha, hb', e1, e2⟩ := isB_true hb
        unfold putT
        rw [if_pos hb, atT_set (by rw [e1, e2]; omega), if_pos hj.symm]
        exact h q (by simp) hb hj
      · exact absurd ⟨q, hq, hb, hj⟩ hl
theorem placesL_in {a b : Nat} (ha : a < 8) (hb : b < 8) : (((a : Int), (b : Int)) : Int × Int) ∈ placesL := by
  have h := placesL_at (k := b * 8 + a) (by omega)
  rw [show (b * 8 + a) % 8 = a by omega, show (b * 8 + a) / 8 = b by omega] at h
  exact List.mem_of_getElem? h
theorem placesL_mem' {p : Int × Int} (h : p ∈ placesL) : ∃ a b : Nat, a < 8 ∧ b < 8 ∧ p = ((a : Int), (b : Int)) := by
  obtain ⟨k, hk, rfl⟩ := List.mem_map.1 h
  have := List.mem_range.1 hk
  exact ⟨k % 8, k / 8, by omega, by omega, rfl⟩
def shiftT (T : List Col) (c : Col) (x y : Int) : List Col := moveT T c (fun u v => (u + clampZ x, v + clampZ y))
theorem shiftT_length (T : List Col) (c : Col) (x y : Int) : (shiftT T c x y).length = 64 := moveT_length _ _ _
theorem clamp_in {x : Int} (h1 : -8 ≤ x) (h2 : x ≤ 8) : clampZ x = x := by unfold clampZ; omega
/-- a pixel of a shifted tile -/
theorem shiftT_at {T : List Col} {c : Col} {x y : Int} (hx : -8 ≤ x ∧ x ≤ 8) (hy : -8 ≤ y ∧ y ≤ 8) {a b : Nat} (ha : a < 8) (hb : b < 8) :
    atT (shiftT T c x y) (b * 8 + a) = if isB ((a : Int) - x) ((b : Int) - y) = true then atT T (((b : Int) - y) * 8 + ((a : Int) - x)).toNat else c := by
  unfold shiftT moveT
  rw [clamp_in hx.1 hx.2, clamp_in hy.1 hy.2]
  have hl : (List.replicate 64 c).length = 64 := by simp
  split
  · rename_i h
    obtain ⟨i, j, hi, hj, e1, e2⟩ := isB_true h
    refine foldT_some _ _ _ _ _ hl (fun p hp hb' e => ?_) ⟨((i : Int), (j : Int)), placesL_in hi hj, ?_, ?_⟩
    · obtain ⟨u, v, hu, hv, rfl⟩ := placesL_mem' hp
      simp only [isB_iff] at hb' e ⊢
      congr 1
      omega
    · simp only [isB_iff]; omega
    · simp only []; omega
  · rename_i h
    rw [foldT_none _ _ _ _ hl fun p hp hb' e => h ?_]
    · unfold atT; rw [List.getD_eq_getElem?_getD, List.getElem?_replicate, if_pos (by omega)]; rfl
    · obtain ⟨u, v, hu, hv, rfl⟩ := placesL_mem' hp
      simp only [isB_iff] at hb' e ⊢
      omega
/-- shifted there and back -/
theorem shift_back {T : List Col} {x y : Int} (hx : -8 ≤ x ∧ x ≤ 8) (hy : -8 ≤ y ∧ y ≤ 8) {a b : Nat} (ha : a < 8) (hb : b < 8) :
    atT (shiftT (shiftT T z0 x y) z0 (-x) (-y)) (b * 8 + a) = if isB ((a : Int) + x) ((b : Int) + y) = true then atT T (b * 8 + a) else z0 := by
  rw [shiftT_at (by omega) (by omega) ha hb]
  simp only [Int.sub_neg]
  split
  · rename_i h
    obtain ⟨i, j, hi, hj, e1, e2⟩ := isB_true h
    rw [e1, e2, show ((j : Int) * 8 + (i : Int)).toNat = j * 8 + i by omega, shiftT_at hx hy hi hj, ← e1, ← e2]
    rw [show (a : Int) + x - x = a by omega, show (b : Int) + y - y = b by omega, if_pos (isB_nat ha hb)]
    congr 1
  · rfl
theorem tmod9 (x : Int) : -8 ≤ x.tmod 9 ∧ x.tmod 9 ≤ 8 := by
  have h1 := Int.tmod_lt_of_pos x (show (0 : Int) < 9 by omega)
  rcases Int.le_total 0 x with h | h
  · have := Int.tmod_nonneg 9 h; omega
  · have h3 := Int.tmod_lt_of_pos (-x) (show (0 : Int) < 9 by omega)
    have h4 := Int.tmod_nonneg 9 (show 0 ≤ -x by omega)
    rw [Int.neg_tmod] at h3 h4
    omega
theorem shiftT_any (T : List Col) (x y : Int) (c : Col) (w : World) (hT : T.length = 64) :
    Calls Try.prog 40 #[.agg (tileA T), .int .i64 x, .int .i64 y, colV c] w fun e w' => e = .returned (.agg (tileA (shiftT T c x y))) ∧ Below w.heap.size w w' := shift_any T x y c w hT
end Go.Proofs.Ytedckelfdkfkoaa
