/- Walks of the document: the colours of a tile. -/
import Derived.Test.YtedckelfdkfkoaaJ
import Derived.Test.YtedckelfdkfkoaaR1
namespace Go.Proofs.Ytedckelfdkfkoaa
open Go.RowKit Go.Shelf
attribute [local go_sem] Oper.semAt_some
attribute [local go_sem 2000] run_col run_tile
attribute [local go_sem ↓] zero25 build25 build176z build176 load25 store25
attribute [local go_sem] rowAt_alloc rowFree_alloc rowAt_drew rowFree_drew rowAt_alloc_map zeroA_size zc176 zeroA_ones blkOf_ptr aggOf_agg

theorem slice25h (n k : Nat) (hk : k ≤ 64) (W : World) : (Instr.sliceAt 25 (.pointer (some ⟨n, 0, none⟩)) none (some (.int .i64 (k : Int))) none).run Try.prog W = .ok (.slice (some ⟨n, 0, none⟩) k 64) W := by
  have ha : Try.prog.arrayLen 25 = 64 := by kernel_rfl
  have h := run_sliceAt_array_h (P := Try.prog) W 25 ⟨n, 0, none⟩ (by kernel_rfl) .i64 (k : Int) (by omega) (by rw [ha]; omega)
  have hz : (sizeOf (Try.prog.elem 25)).run Try.prog W = .ok 4 W := by kernel_rfl
  rw [h, hz, ha]
  unfold slicedAt
  simp [Result.andThen, Addr.add]
structure RcSt (T : List Col) (k : Nat) (n : Nat) (w wr : World) (v : Value) : Prop where
  kle : k ≤ 64
  has : Has wr n (.cells (tileA T) 25 (0, 0))
  own : wr.ownsRow (n + 1) 23 4 v (firstsL (T.take k)).length (colsV (firstsL (T.take k)))
  low : n + 1 ≤ wr.heap.size
  bel : Below n w wr

theorem mem_take_snoc {T : List Col} {j : Nat} {c d : Col} (hd : T[j]? = some d) : (c ∈ T.take (j + 1)) ↔ (c ∈ T.take j ∨ c = d) := by
  rw [← take_snoc hd]; simp

set_option maxRecDepth 100000 in
set_option maxHeartbeats 2000000 in
theorem rcolors_any (T : List Col) (w : World) (hT : T.length = 64) (hb : ∀ d ∈ T, ByC d) :
    Calls Try.prog 27 #[.agg (tileA T)] w fun e w' => ∃ ad cap, e = .returned (.slice ad (firstsL T).length cap) ∧ ColRow w' ad (firstsL T) ∧ Below w.heap.size w w' := by
  have hs : (tileA T).size = 256 := by rw [tileA_size, hT]
  have HT := Lib.hid (And.intro hT hb)
  clear hT hb
  go_enter Try.func27, Try.ntmps27
  go_wp2
  generalize hX : World.alloc _ _ = X
  have x1 : Has X w.heap.size (.cells (tileA T) 25 (0, 0)) := by rw [← hX]; exact Has.new _ _
  have sz : X.heap.size = w.heap.size + 1 := by rw [← hX]; simp
  have b0 : Below w.heap.size w X := by rw [← hX]; exact (Below.refl _ _).alloc (by simp) _
  clear hX
  go_loopg [3, 10] 64 (fun n v i wr => ∃ (k : Nat), n = 64 - k ∧ i = .int .i64 k ∧ RcSt T k w.heap.size w wr v)
  case atStart => exact ⟨0, by omega, rfl, by omega, x1, ⟨rfl, .inl ⟨rfl, rfl⟩⟩, by omega, b0⟩
  case round =>
    clear x1 b0 sz
    obtain ⟨k, hn, rfl, hst⟩ := hrel
    by_cases hlt : k < 64
    · have hi := fun w => idx25 T k HT.out.1 hlt w
      obtain ⟨c, hc⟩ : ∃ c, atT T k = c := ⟨_, rfl⟩
      rw [hc] at hi
      have hcb : ByC c := by rw [← hc]; exact atT_by HT.out.2 (by rw [HT.out.1]; exact hlt)
      have htk : T.take (k + 1) = T.take k ++ [c] := (take_snoc (by rw [atT_eq (by rw [HT.out.1]; exact hlt), hc])).symm
      have S := Lib.hid (And.intro hn (And.intro hst (And.intro hcb htk)))
      have hlow := hst.low
      clear hn hst hc hcb htk
      obtain ⟨c0, c1, c2, c3⟩ := c
      have hsl := fun W => slice25h w.heap.size k (by omega) W
      have hd : decide ((k : Int) < 64) = true := by simp; omega
      go_wp2
      clear hsl
      clear hd
      clear hi
      generalize hV : wr.alloc (.cells #[.int .u8 c0, .int .u8 c1, .int .u8 c2, .int .u8 c3] 23) = V
      have qV : Has V wr.heap.size (.cells (colC (c0, c1, c2, c3)) 23 (0, 0)) := by rw [← hV]; exact Has.new _ _
      have mV : Has V w.heap.size (.cells (tileA T) 25 (0, 0)) := by rw [← hV]; exact S.out.2.1.has.alloc _
      have oV := S.out.2.1.own.alloc (.cells #[.int .u8 c0, .int .u8 c1, .int .u8 c2, .int .u8 c3] 23)
      rw [hV] at oV
      have bV : Below w.heap.size w V := by rw [← hV]; exact S.out.2.1.bel.alloc S.out.2.1.bel.size _
      have szV : V.heap.size = wr.heap.size + 1 := by rw [← hV]; simp
      have Q := Lib.hid (And.intro qV (And.intro mV (And.intro oV (And.intro bV szV))))
      clear qV mV oV bV szV hV
      obtain ⟨wo, rfl⟩ : ∃ wo : World, wo = wr := ⟨_, rfl⟩
      go_loopg [6, 17] k (fun n v i wi => ∃ (j : Nat), j ≤ k ∧ n = k - j ∧ i = .int .i64 j ∧ v = .bool (!decide ((c0, c1, c2, c3) ∈ T.take j)) ∧ Below V.heap.size V wi)
      case atStart => exact ⟨0, by omega, by omega, rfl, rfl, Below.refl _ _⟩
      case round =>
        obtain ⟨j, hj, hn, rfl, rfl, hB⟩ := hrel
        by_cases hjk : j < k
        · have p := (Q.out.2.1.below hB Q.out.2.1.lt).pix (k := j) (by rw [HT.out.1]; omega)
          have q := ((Q.out.1.below hB Q.out.1.lt).alloc (.cells (colC (atT T j)) 23)).four
          have hmm := mem_take_snoc (c := (c0, c1, c2, c3)) (atT_eq (T := T) (k := j) (by rw [HT.out.1]; omega))
          generalize atT T j = d at *
          obtain ⟨d0, d1, d2, d3⟩ := d
          unfold PixAt at p
          obtain ⟨bb, hbb⟩ : ∃ bb, decide ((c0, c1, c2, c3) ∈ T.take j) = bb := ⟨_, rfl⟩
          rw [hbb]
          have R := Lib.hid (And.intro hn (And.intro hB (And.intro hmm hbb)))
          clear hn hB hmm hbb
          cases hcb : colB d0 d1 d2 d3 c0 c1 c2 c3 with
          | true =>
            have HB := Lib.hid hcb
            go_wp2
            obtain ⟨hn, hB, hmm, hbb⟩ := R.out
            have e : ((d0, d1, d2, d3) : Col) = (c0, c1, c2, c3) := by have := HB.out; rw [colB_eq'] at this; exact of_decide_eq_true this
            go_roundg (k - (j + 1))
            case measure => omega
            case rel => exact ⟨j + 1, hjk, rfl, by go_num, by rw [decide_eq_true (hmm.2 (.inr e.symm))]; rfl, hB.alloc hB.size _⟩
          | false =>
            have HB := Lib.hid hcb
            go_wp2
            obtain ⟨hn, hB, hmm, hbb⟩ := R.out
            have e : ¬ ((c0, c1, c2, c3) : Col) = (d0, d1, d2, d3) := fun e => by have := HB.out; rw [colB_eq'] at this; exact of_decide_eq_false this e.symm
            go_roundg (k - (j + 1))
            case measure => omega
            case rel => exact ⟨j + 1, hjk, rfl, by go_num, by rw [← hbb]; exact congrArg (fun b => Value.bool (!b)) (decide_eq_decide.2 (hmm.trans (or_iff_left e))).symm, hB.alloc hB.size _⟩
        · obtain rfl : j = k := by omega
          clear hn
          have q := (Q.out.1.below hB Q.out.1.lt).four
          have oW := Q.out.2.2.1.kept (below_grew hB [w.heap.size]).one (.inr fun e => by have := Q.out.2.2.1.lt _ e; omega)
          have mW := Q.out.2.1.below hB Q.out.2.1.lt
          have bW := Q.out.2.2.2.1.trans (hB.mono Q.out.2.2.2.1.size)
          have szW : w.heap.size + 1 ≤ wr.heap.size := by have := Q.out.2.2.2.2; have := hB.size; omega
          obtain ⟨hn, hst, hcb, htk⟩ := S.out
          have hmf := firstsL_sub (T.take j) (c0, c1, c2, c3)
          by_cases hin : (c0, c1, c2, c3) ∈ T.take j
          · rw [decide_eq_true hin]
            have hf : firstsL (T.take (j + 1)) = firstsL (T.take j) := by rw [htk, firstsL_snoc, if_pos (hmf.2 hin)]
            have R := Lib.hid (And.intro oW (And.intro mW (And.intro bW (And.intro szW (And.intro hn hf)))))
            clear oW mW bW szW hn hf hst hcb htk hmf hin q hB
            go_wp2
            obtain ⟨oW, mW, bW, szW, hn, hf⟩ := R.out
            go_roundg (64 - (j + 1))
            case measure => omega
            case rel => exact ⟨j + 1, rfl, by go_num, by omega, mW, by rw [hf]; exact oW, szW, bW⟩
          · rw [decide_eq_false hin]
            have hf : firstsL (T.take (j + 1)) = firstsL (T.take j) ++ [(c0, c1, c2, c3)] := by rw [htk, firstsL_snoc, if_neg (fun h => hin (hmf.1 h))]
            have n2 := firstsL_le (T.take j)
            have n3 : (T.take j).length ≤ 64 := by rw [List.length_take]; omega
            have R := Lib.hid (And.intro mW (And.intro bW (And.intro szW (And.intro hn hf))))
            clear mW bW hn hf hst hcb htk hmf hin hB
            generalize wr = U2 at *
            go_wp2_with (at_builtin; refine wpList_append_own _ rfl _ _ 26 rfl (w.heap.size + 1) 23 _ (.agg #[.int .u8 0, .int .u8 0, .int .u8 0, .int .u8 0]) 4 4 Try.underlying26 rfl rfl rfl rfl rfl (by omega) _ _ _ rfl (oW.alloc _) ⟨U2.heap.size, 0, none⟩ 1 1 (colsV [(c0, c1, c2, c3)]) rfl rfl (news_col U2 (c0, c1, c2, c3) 23) (colsV_one _) ?b1 ?b2 ?b3 ?_)
            case b1 => unfold maxLen; omega
            case b2 => omega
            case b3 => omega
            intro v' w4 hO4 hg4 _
            have T5 := Lib.hid (And.intro hO4 (And.intro hg4 oW))
            clear hO4 hg4 oW n2 n3 q
            go_wp2
            obtain ⟨mW, bW, szW, hn, hf⟩ := R.out
            obtain ⟨hO4, hg4, oW⟩ := T5.out
            go_roundg (64 - (j + 1))
            case measure => omega
            case rel =>
              refine ⟨j + 1, rfl, by go_num, by omega, ?_, ?_, ?_, ?_⟩
              · exact (mW.alloc _).kept hg4 (fun e => by have := (oW.lt _ e.symm).1; omega)
              · rw [hf, List.length_append, colsV_snoc]; exact hO4
              · have := hg4.size; simp at this; omega
              · exact (bW.alloc bW.size _).grown hg4 (by simp; omega) (fun i e => by have := (oW.lt _ e).1; omega)
    · obtain rfl : k = 64 := by have := hst.kle; omega
      have ht : T.take 64 = T := List.take_of_length_le (by rw [HT.out.1]; exact Nat.le_refl _)
      have hO := hst.own
      rw [ht] at hO
      have n2 := firstsL_le T
      rw [HT.out.1] at n2
      obtain ⟨ad, cap, rfl, hrow, _⟩ := cols_of_own (by unfold maxLen; omega) (fun c hc => HT.out.2 c ((firstsL_sub T c).1 hc)) hO
      have T1 := Lib.hid (And.intro hrow hst.bel)
      clear hO hrow hst hn ht
      go_wp2
      go_ret
      exact ⟨ad, cap, rfl, T1.out.1, T1.out.2⟩
end Go.Proofs.Ytedckelfdkfkoaa
