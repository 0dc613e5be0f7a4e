/- Walks: the colours of a tile. -/
import Derived.Test.YtedckelfdkfkoaaH
import Derived.Test.YtedckelfdkfkoaaM
import Derived.Maps.Own
import Derived.OwnWalk
import Derived.DeepKeys4
namespace Go.Proofs.Ytedckelfdkfkoaa
open Go.RowKit Go.Shelf
attribute [local go_sem] Oper.semAt_some

theorem laid_ok : laidOutB Try.prog = true := by kernel_rfl
theorem idx25 (T : List Col) (k : Nat) (hT : T.length = 64) (hk : k < 64) (w : World) : (Instr.index 25 (.agg (tileA T)) (.int .i64 (k : Int))).run Try.prog w = .ok (colV (atT T k)) w := by
  have h4 : (sizeOf 23).run Try.prog w = .ok 4 w := by kernel_rfl
  have hp := part23 T k (by omega) w
  have hn : ((k : Int)).toNat = k := by omega
  simp [Instr.index, run_underlying Try.underlying25, h4, hn, hp, hk, Result.andThen, asIntOf]
theorem keyLits_int {P : Program} {e : TypeId} {q : IntKind} (he : P.underlying e = some (.int q)) (d : Nat) {n : Int} (hw : (Lit.int q n).wf = true) : P.keyLits (d + 1) e [.int q n] = some [.int q n] := by
  simp [Program.keyLits, he, hw]
theorem keys23 : KeyKind Try.prog 23 colV ByC where
  law := Maps.Keyed.of_law (deep_law_laid laid_ok (m := 3) (by omega) (of_decide_eq_true (by kernel_rfl)) (by kernel_rfl) (by kernel_rfl))
  key := by
    rintro ⟨a, b, c, d⟩ ⟨h1, h2, h3, h4⟩
    simp only [] at h1 h2 h3 h4
    have wf : ∀ n : Int, By n → (Lit.int .u8 n).wf = true := by
      intro n hn
      have e1 : IntKind.u8.min = 0 := rfl
      have e2 : IntKind.u8.max = 255 := rfl
      simp only [Lit.wf, e1, e2, Bool.and_eq_true, decide_eq_true_eq]; exact hn
    have hpos : 0 < Try.prog.types.size := of_decide_eq_true (by kernel_rfl)
    obtain ⟨N, hN⟩ : ∃ N, Try.prog.types.size = N + 1 := ⟨Try.prog.types.size - 1, by omega⟩
    have hk : Try.prog.keyType 23 = true := by kernel_rfl
    have hc : Try.prog.cellsOf 23 = 4 := by kernel_rfl
    have hc5 : Try.prog.cellsOf 5 = 1 := by kernel_rfl
    have q := fun n hn => keyLits_int (P := Try.prog) (e := 5) Try.underlying5 N (n := n) (wf n hn)
    have top : Try.prog.keyLits (N + 1 + 1) 23 [.int .u8 a, .int .u8 b, .int .u8 c, .int .u8 d] = some [.int .u8 a, .int .u8 b, .int .u8 c, .int .u8 d] := by
      unfold Program.keyLits
      rw [Try.underlying23]
      simp [hc, hc5, List.mapM_cons, q a h1, q b h2, q c h3, q d h4]
    unfold keyOf
    rw [Try.underlying23, hN]
    simp only [hk, Value.formed, Try.underlying23, hc, Value.cells, top, List.size_toArray, List.length_cons, List.length_nil]
    exact ⟨_, rfl⟩
  inj := by
    rintro ⟨a, b, c, d⟩ ⟨a', b', c', d'⟩ _ _ h
    simpa using h
attribute [local go_sem 2000] run_col run_tile
attribute [local go_sem ↓] zero25 build25 build176z build176 load25 store25
attribute [local go_sem] rowAt_alloc rowFree_alloc rowAt_drew rowFree_drew zeroA_size zc176 zeroA_ones blkOf_ptr aggOf_agg

/-- the colours of a row, each once -/
def firstsL (T : List Col) : List Col := T.foldl (fun acc c => if c ∈ acc then acc else acc ++ [c]) []
theorem firstsL_snoc (T : List Col) (c : Col) : firstsL (T ++ [c]) = if c ∈ firstsL T then firstsL T else firstsL T ++ [c] := by
  unfold firstsL; rw [List.foldl_append]; rfl
theorem firstsL_sub (T : List Col) : ∀ c, c ∈ firstsL T ↔ c ∈ T := by
  suffices h : ∀ (T acc : List Col) (c : Col), c ∈ T.foldl (fun acc c => if c ∈ acc then acc else acc ++ [c]) acc ↔ c ∈ acc ∨ c ∈ T by
    intro c; have := h T [] c; simpa [firstsL] using this
  intro T
  induction T with
  | nil => intro acc c; simp
  | cons d T ih =>
    intro acc c
    rw [List.foldl_cons, ih]
    split
    · rename_i hd
      simp only [List.mem_cons]
      constructor
      · rintro (h | h) <;> simp [h]
      · rintro (h | rfl | h) <;> simp_all
    · simp only [List.mem_append, List.mem_cons, List.not_mem_nil, or_false]
      constructor
      · rintro ((h | h) | h) <;> simp [h]
      · rintro (h | h | h) <;> simp [h]
theorem firstsL_nodup (T : List Col) : (firstsL T).Nodup := by
  suffices h : ∀ (T acc : List Col), acc.Nodup → (T.foldl (fun acc c => if c ∈ acc then acc else acc ++ [c]) acc).Nodup from h T [] List.nodup_nil
  intro T
  induction T with
  | nil => intro acc h; exact h
  | cons d T ih =>
    intro acc h
    rw [List.foldl_cons]
    apply ih
    split
    · exact h
    · rename_i hd
      rw [List.nodup_append]
      exact ⟨h, by simp, fun a ha b hb => by simp at hb; subst hb; rintro rfl; exact hd ha⟩
theorem firstsL_le (T : List Col) : (firstsL T).length ≤ T.length := by
  suffices h : ∀ (T acc : List Col), (T.foldl (fun acc c => if c ∈ acc then acc else acc ++ [c]) acc).length ≤ acc.length + T.length by simpa [firstsL] using h T []
  intro T
  induction T with
  | nil => intro acc; simp
  | cons d T ih =>
    intro acc
    rw [List.foldl_cons]
    refine Nat.le_trans (ih _) ?_
    split <;> simp <;> omega

end Go.Proofs.Ytedckelfdkfkoaa
