/- Facts on the program's types: colours and tiles. -/
import Derived.Test.YtedckelfdkfkoaaL
import Derived.Test.YtedckelfdkfkoaaProg
import Derived.Maps.Own
import Derived.Deep.WholeRow
namespace Go.Proofs.Ytedckelfdkfkoaa
open Go.RowKit Go.Shelf
attribute [local go_sem] Oper.semAt_some

theorem run_col (r g b a r' g' b' a' : Int) (w : World) : (Op.equalIn 10000 23 (.agg #[.int .u8 r, .int .u8 g, .int .u8 b, .int .u8 a]) (.agg #[.int .u8 r', .int .u8 g', .int .u8 b', .int .u8 a'])).run Try.prog w = .ok (colB r g b a r' g' b' a') w := by
  by_cases h1 : r = r'
  · by_cases h2 : g = g'
    · by_cases h3 : b = b'
      · by_cases h4 : a = a' <;> simp [go_sem, colB, h1, h2, h3, h4]
      · simp [go_sem, colB, h1, h2, h3]
    · simp [go_sem, colB, h1, h2]
  · simp [go_sem, colB, h1]
theorem run_col9 (r g b a r' g' b' a' : Int) (w : World) : (Op.equalIn 9999 23 (.agg #[.int .u8 r, .int .u8 g, .int .u8 b, .int .u8 a]) (.agg #[.int .u8 r', .int .u8 g', .int .u8 b', .int .u8 a'])).run Try.prog w = .ok (colB r g b a r' g' b' a') w := by
  by_cases h1 : r = r'
  · by_cases h2 : g = g'
    · by_cases h3 : b = b'
      · by_cases h4 : a = a' <;> simp [go_sem, colB, h1, h2, h3, h4]
      · simp [go_sem, colB, h1, h2, h3]
    · simp [go_sem, colB, h1, h2]
  · simp [go_sem, colB, h1]

/-- the empty tile -/
def z0 : Col := (0, 0, 0, 0)
def blankT : List Col := List.replicate 64 z0
def zeroA : Array Value := tileA blankT
theorem blankT_length : blankT.length = 64 := by simp [blankT]
theorem zeroA_size : zeroA.size = 256 := by unfold zeroA; rw [tileA_size, blankT_length]
theorem zeroA_ones : onesB zeroA = true := onesB_tile _
theorem zero25 : ∀ w, (zeroValue 25).run Try.prog w = .ok (.agg zeroA) w := (zero_of_info (P := Try.prog) (t := 25) (v := .agg zeroA) (n := 256) (by kernel_rfl)).1
theorem size25 : (Try.prog.info? 25).map (·.size) = some 256 := by kernel_rfl
theorem size176 : (Try.prog.info? 176).map (·.size) = some 256 := by kernel_rfl
theorem build25 (w : World) : (Instr.build 25 #[]).run Try.prog w = .ok (.agg zeroA) w := run_build w 25 #[] zeroA (by kernel_rfl)
theorem build176z (w : World) : (Instr.build 176 #[]).run Try.prog w = .ok (.agg zeroA) w := run_build w 176 #[] zeroA (by kernel_rfl)
theorem zc176 : Try.zeroCells176 = zeroA := by kernel_rfl
theorem built176 (v : Value) : Try.prog.built 176 [(0, v)] = Instr.fill (#[(0, 256)][·]?) zeroA [(0, v)] := by
  unfold Program.built
  have h1 : (Try.prog.info? 176).map (fun i => i.zero) = some (some (.agg zeroA)) := by kernel_rfl
  have h2 : (Try.prog.fieldsOf 176).toList.mapM (fun f => (Try.prog.info? f.type).map fun i => (f.offset, i.size)) = some [(0, 256)] := by kernel_rfl
  have h3 : Try.prog.underlying 176 = some (.struct (Try.prog.fieldsOf 176)) := by kernel_rfl
  rw [h3]
  generalize Try.prog.info? 176 = I at h1
  cases I with
  | none => cases h1
  | some i =>
    simp only [Option.map_some, Option.some.injEq] at h1
    simp only [h1, h2, Value.cells]
theorem build176 (A : Array Value) (h : A.size = 256) (w : World) : (Instr.build 176 #[(0, .agg A)]).run Try.prog w = .ok (.agg A) w := by
  refine run_build w 176 _ A ?_
  show Try.prog.built 176 [(0, .agg A)] = some A
  rw [built176]
  have hz : zeroA.size = 256 := zeroA_size
  simp only [Instr.fill, Value.cells, h, hz]
  simp only [List.getElem?_toArray, List.getElem?_cons_zero, ne_eq, not_true_eq_false, decide_false, Nat.zero_add, gt_iff_lt, Nat.lt_irrefl, Bool.or_self, Bool.false_eq_true, if_false, Option.some.injEq]
  have := fold_whole A zeroA (by rw [h, hz])
  simpa using this
/-- a tile's value put into another struct's head, as the walk leaves it -/
theorem build_fold (A : Array Value) (h : A.size = 256) : Array.foldl (fun (cs : Array Value) (x : Value × Nat) => cs.setIfInBounds x.snd x.fst) zeroA A.zipIdx 0 256 = A := by
  have := fold_whole A zeroA (by rw [h, zeroA_size])
  simpa [h] using this
theorem load25 (e : Operand → Value) (x : Operand) (dst : Option Tmp) (t : TypeId) (pos : String) (af : Array Edge) (g : Option (Nat × Bool)) (w : World)
    (hx : e x = .pointer (some ⟨blkOf (e x), 0, none⟩)) (h : (rowAt w (blkOf (e x))).map Array.size = some 256) :
    (execOp e ⟨dst, .load 25 x, t, pos, af, g⟩).run Try.prog w = .ok (.value (.agg ((rowAt w (blkOf (e x))).getD #[]))) w := exec_load_row Try.underlying25 rfl size25 e x dst t pos af g w hx h
theorem store25 (e : Operand → Value) (x y : Operand) (dst : Option Tmp) (t : TypeId) (pos : String) (af : Array Edge) (g : Option (Nat × Bool)) (w : World)
    (hx : e x = .pointer (some ⟨blkOf (e x), 0, none⟩)) (hy : e y = .agg (aggOf (e y))) (h : (rowAt w (blkOf (e x))).map Array.size = some 256) (hf : rowFree w (blkOf (e x)) = true) (hs : (aggOf (e y)).size = 256) (h1 : onesB (aggOf (e y)) = true) :
    (execOp e ⟨dst, .store 25 x y, t, pos, af, g⟩).run Try.prog w = .ok .skip (w.setRow (blkOf (e x)) (aggOf (e y))) := exec_store_row size25 e x y dst t pos af g w hx hy h hf hs h1
theorem res25 {fn : Func} {p : Tmp} (h : fn.results = #[.cell p 25]) (tmps : Array Value) (w : World) (g : Nat) (T : TypeId) (A : Array Value) (z : Nat × Nat) (hp : tmps.getD p undef = .pointer (some ⟨g, 0, none⟩)) (hg : Has w g (.cells A T z)) (hs : A.size = 256) :
    (results fn tmps).run Try.prog w = .ok (.agg A) w := results_cell_row h tmps w g T A z _ hp hg Try.underlying25 rfl (by rw [size25, hs])
theorem exec_tile {e : Operand → Value} {x : Operand} {dst : Option Tmp} {t : TypeId} {pos : String} {af : Array Edge} {g : Option (Nat × Bool)} {w : World} {b : Nat} {A : Array Value} (hA : rowAt w b = some A) (hs : A.size = 256) (hx : e x = .pointer (some ⟨b, 0, none⟩)) :
    (execOp e ⟨dst, .load 25 x, t, pos, af, g⟩).run Try.prog w = .ok (.value (.agg A)) w := by
  have h := load25 e x dst t pos af g w (by rw [hx]; rfl) (by rw [hx]; show (rowAt w b).map Array.size = some 256; rw [hA, ← hs]; rfl)
  rw [hx] at h
  rw [h]
  show Result.ok (Next.value (.agg ((rowAt w b).getD #[]))) w = _
  rw [hA]; rfl
/-- an element of a tile's value -/
theorem part23 (T : List Col) (k : Nat) (hk : k < T.length) (w : World) : (part 23 (tileA T) (k * 4)).run Try.prog w = .ok (colV (atT T k)) w := by
  have hag : (isAgg 23).run Try.prog w = .ok true w := by kernel_rfl
  have hsz : (sizeOf 23).run Try.prog w = .ok 4 w := by kernel_rfl
  have hx : (tileA T).extract (k * 4) (k * 4 + 4) = #[.int .u8 (atT T k).1, .int .u8 (atT T k).2.1, .int .u8 (atT T k).2.2.1, .int .u8 (atT T k).2.2.2] := by
    obtain ⟨e0, e1, e2, e3⟩ := tile_at hk
    have hs := tileA_size T
    apply Array.ext_getElem?
    intro j
    rw [Array.getElem?_extract]
    by_cases hj : j < 4
    · rw [if_pos (by omega)]
      rcases (by omega : j = 0 ∨ j = 1 ∨ j = 2 ∨ j = 3) with rfl | rfl | rfl | rfl
      · rw [Nat.add_zero, e0]; rfl
      · rw [e1]; rfl
      · rw [e2]; rfl
      · rw [e3]; rfl
    · rw [if_neg (by omega), Array.getElem?_eq_none (by simp; omega)]
  simp only [part, Sem.run_bind, hag, hsz, Result.andThen_ok, if_true, hx, Sem.run_pure]
/-- are two tiles the same? -/
theorem run_items (T T' : List Col) (hT : T.length = 64) (hT' : T'.length = 64) (w : World) : ∀ is : List Nat, (∀ i ∈ is, i < 64) →
    (Op.eqItems 9999 23 4 (tileA T) (tileA T') is).run Try.prog w = .ok (decide (∀ i ∈ is, atT T i = atT T' i)) w
  | [], _ => by simp [Op.eqItems]
  | i :: is, h => by
    have hi := h i (by simp)
    have ih := run_items T T' hT hT' w is (fun j hj => h j (by simp [hj]))
    simp only [Op.eqItems, Sem.run_bind, part23 T i (by omega), part23 T' i (by omega), run_col9, Result.andThen_ok, colB_eq]
    by_cases he : atT T i = atT T' i
    · simp only [he, decide_true, Bool.not_true, Bool.false_eq_true, if_false, ih]
      simp [he]
    · simp [he]
theorem run_tile (T T' : List Col) (hT : T.length = 64) (hT' : T'.length = 64) (w : World) : (Op.equalIn 10000 25 (.agg (tileA T)) (.agg (tileA T'))).run Try.prog w = .ok (decide (T = T')) w := by
  obtain ⟨i, hi⟩ : ∃ i, Try.prog.info? 23 = some i := Option.isSome_iff_exists.1 (by kernel_rfl)
  have hc : Try.prog.cellsOf 23 = 4 := by kernel_rfl
  have hu : Try.prog.underlying 25 = some (.array 64 23) := Try.underlying25
  have h0 := run_equalIn_array (P := Try.prog) (w := w) 9999 (tileA T) (tileA T') hu hi
  rw [hc, run_items T T' hT hT' w _ (fun i hi => List.mem_range.1 hi)] at h0
  refine h0.trans ?_
  have e : decide (∀ i ∈ List.range 64, atT T i = atT T' i) = decide (T = T') := by
    rw [decide_eq_decide]
    exact ⟨fun h => tile_ext (by omega) (fun k hk => h k (List.mem_range.2 (by omega))), fun h i _ => by rw [h]⟩
  rw [e]
end Go.Proofs.Ytedckelfdkfkoaa
