/- Walks: the colours of a tile. -/
import Derived.Test.YtedckelfdkfkoaaI
import Derived.IntWalk
namespace Go.Proofs.Ytedckelfdkfkoaa
open Go.RowKit Go.Shelf
attribute [local go_sem] Oper.semAt_some
attribute [local go_sem 2000] run_col run_tile
attribute [local go_sem ↓] zero25 build25 build176z build176 load25 store25
attribute [local go_sem] rowAt_alloc rowFree_alloc rowAt_drew rowFree_drew rowAt_alloc_map zeroA_size zc176 zeroA_ones blkOf_ptr aggOf_agg

/-- a colour in its block, and a map in which so many of it are counted -/
def ColS (q n : Nat) (c : Col) (v : Int) (Y : World) : Prop := Has Y q (.cells (colC c) 23 (0, 0)) ∧ ∃ m', Has Y n (mapO colV intV m') ∧ (∀ p ∈ m', ByC p.1) ∧ (m'.map Prod.fst).Nodup ∧ (lkp m' c).elim (intV 0) intV = intV v
theorem ColS.four {q n : Nat} {c : Col} {v : Int} {Y : World} (h : ColS q n c v Y) : Y.cell? ⟨q, 0, none⟩ = some (.int .u8 c.1) ∧ Y.cell? ⟨q, 1, none⟩ = some (.int .u8 c.2.1) ∧ Y.cell? ⟨q, 2, none⟩ = some (.int .u8 c.2.2.1) ∧ Y.cell? ⟨q, 3, none⟩ = some (.int .u8 c.2.2.2) := h.1.four
theorem ColS.look {q n : Nat} {c : Col} {v : Int} {Y : World} (h : ColS q n c v Y) (hc : ByC c) : (Instr.lookup 168 (.map (some n)) (.agg (colC c)) false).run Try.prog Y = .ok (.int .i64 v) Y := by
  obtain ⟨_, m', hm', hby, hnd, hlk⟩ := h
  have z3 : (zeroValue 3).run Try.prog Y = .ok (.int .i64 0) Y := by kernel_rfl
  have := map_look (vv := intV) keys23 Try.underlying168 z3 hm' hby hnd hc
  rw [hlk] at this
  exact this
/-- the state of the loop -/
structure ColsSt (T : List Col) (k : Nat) (n : Nat) (w wr : World) (v : Value) (m : List (Col × Int)) : Prop where
  kle : k ≤ 64
  has : Has wr (n + 1) (mapO colV intV m)
  fst : m.map Prod.fst = firstsL (T.take k)
  cnt : ∀ p ∈ m, 1 ≤ p.2 ∧ p.2 ≤ k
  by_ : ∀ p ∈ m, ByC p.1
  own : wr.ownsRow (n + 2) 23 4 v (firstsL (T.take k)).length (colsV (firstsL (T.take k)))
  low : n + 2 ≤ wr.heap.size
  bel : Below n w wr
theorem ColsSt.nodup {T : List Col} {k n : Nat} {w wr : World} {v : Value} {m : List (Col × Int)} (h : ColsSt T k n w wr v m) : (m.map Prod.fst).Nodup := by rw [h.fst]; exact firstsL_nodup _

set_option maxRecDepth 100000 in
set_option maxHeartbeats 2000000 in
theorem colors_any (T : List Col) (w : World) (hT : T.length = 64) (hb : ∀ d ∈ T, ByC d) :
    Calls Try.prog 26 #[.agg (tileA T)] w fun e w' => ∃ ad cap, e = .returned (.slice ad (firstsL T).length cap) ∧ ColRow w' ad (firstsL T) ∧ Below w.heap.size w w' := by
  have hs : (tileA T).size = 256 := by rw [tileA_size, hT]
  have HT := Lib.hid (And.intro hT hb)
  clear hT hb
  have hmm := @run_makeMap Try.prog
  go_enter Try.func26, Try.ntmps26
  go_wp2
  have hbl : ∀ (v : Value), True := fun _ => trivial
  generalize hX : World.alloc _ _ = X
  have sz : X.heap.size = w.heap.size + 2 := by rw [← hX]; simp
  have x1 : Has X (w.heap.size + 1) (mapO colV intV []) := by rw [← hX]; exact Has.new' (by simp)
  have b0 : Below w.heap.size w X := by rw [← hX]; exact ((Below.refl _ _).alloc (by simp) _).alloc (by simp) _
  clear hX hmm hbl
  go_loopg [4, 9] 64 (fun n v i wr => ∃ (k : Nat) (m : List (Col × Int)), n = 64 - k ∧ i = .int .i64 k ∧ ColsSt T k w.heap.size w wr v m)
  case atStart => exact ⟨0, [], by omega, rfl, by omega, x1, rfl, by simp, by simp, ⟨rfl, .inl ⟨rfl, rfl⟩⟩, by omega, b0⟩
  case round =>
    clear x1 b0 sz
    obtain ⟨k, m, hn, rfl, hst⟩ := hrel
    by_cases hlt : k < 64
    · have hi := fun w => idx25 T k HT.out.1 hlt w
      obtain ⟨c, hc⟩ : ∃ c, atT T k = c := ⟨_, rfl⟩
      rw [hc] at hi
      have hcb : ByC c := by rw [← hc]; exact atT_by HT.out.2 (by rw [HT.out.1]; exact hlt)
      have htk : T.take (k + 1) = T.take k ++ [c] := (take_snoc (by rw [atT_eq (by rw [HT.out.1]; exact hlt), hc])).symm
      have S := Lib.hid (And.intro hn (And.intro hst (And.intro hc (And.intro hcb htk))))
      have hlow := hst.low
      clear hn hst hc hcb htk
      obtain ⟨c0, c1, c2, c3⟩ := c
      by_cases hold : (c0, c1, c2, c3) ∈ m.map Prod.fst
      · obtain ⟨j, v, hj⟩ : ∃ (j : Nat) (v : Int), m[j]? = some ((c0, c1, c2, c3), v) := by
          obtain ⟨p, hp, he⟩ := List.mem_map.1 hold
          obtain ⟨j, hj⟩ := List.getElem?_of_mem hp
          exact ⟨j, p.2, by rw [hj, ← he]⟩
        have HJ := Lib.hid hj
        have v1 : 1 ≤ v ∧ v ≤ 64 := by have := S.out.2.1.cnt _ (List.mem_of_getElem? hj); simp only [] at this; omega
        obtain ⟨v2, v3⟩ := v1
        clear hold hj
        go_wp2
        clear hi
        obtain ⟨hn, hst, hc, hcb, htk⟩ := S.out
        generalize hV : wr.alloc (.cells #[.int .u8 c0, .int .u8 c1, .int .u8 c2, .int .u8 c3] 23) = V
        have qV : Has V wr.heap.size (.cells #[.int .u8 c0, .int .u8 c1, .int .u8 c2, .int .u8 c3] 23 (0, 0)) := by rw [← hV]; exact Has.new _ _
        have mV : Has V (w.heap.size + 1) (mapO colV intV m) := by rw [← hV]; exact hst.has.alloc _
        have oV := hst.own.alloc (.cells #[.int .u8 c0, .int .u8 c1, .int .u8 c2, .int .u8 c3] 23)
        rw [hV] at oV
        have bV : Below w.heap.size w V := by rw [← hV]; exact hst.bel.alloc hst.bel.size _
        have szV : V.heap.size = wr.heap.size + 1 := by rw [← hV]; simp
        have lkV : lkp m (c0, c1, c2, c3) = some v := lkp_some hst.nodup HJ.out
        have hent : (Instr.mapEntry 168 (.map (some (w.heap.size + 1))) (.agg (colC (c0, c1, c2, c3)))).run Try.prog V.drew = .ok (.tuple #[.int .i64 v, .int .i64 j]) (V.drew.putObj (w.heap.size + 1) (mapO colV intV m)) :=
          map_entry_old (vv := intV) (W := V.drew) keys23 Try.underlying168 mV.drew hst.by_ hst.nodup HJ.out
        have hcs : ColS wr.heap.size (w.heap.size + 1) (c0, c1, c2, c3) v V.drew := ⟨qV.drew, m, mV.drew, hst.by_, hst.nodup, by rw [lkV]; rfl⟩
        have T1 := Lib.hid (And.intro qV (And.intro mV (And.intro oV (And.intro bV (And.intro szV lkV)))))
        clear hn hst hc htk hV lkV qV mV oV bV szV
        have HCB := Lib.hid hcb
        clear hcb
        have hw : IntKind.i64.wrap (v + 1) = v + 1 := IntWalk.i64_in _ (by omega)
        refine wp_region_tree (.pure 0 (.pure 1 (.pure 2 (.pure 3 (.act 4 (.pure 5 (.last 6))))))) (ColS wr.heap.size (w.heap.size + 1) (c0, c1, c2, c3) v)
          (by kernel_rfl) (by kernel_rfl) (by kernel_rfl) hcs ?_
        repeat (refine tree_pure (v := ?_) rfl rfl ?_ ?_; rotate_left; (focus (intro Y hY; have y0 := hY.four; have hl := hY.look HCB.out; go_simp; try with_reducible rfl)); go_simp; try go_bits)
        refine tree_act rfl rfl ?_
        go_simp
        generalize hU : World.putObj _ _ _ = U
        obtain ⟨hn, hst, hc, hcb, htk⟩ := S.out
        obtain ⟨qV, mV, oV, bV, szV, lkV⟩ := T1.out
        have qU : Has U wr.heap.size (.cells (colC (c0, c1, c2, c3)) 23 (0, 0)) := by rw [← hU]; exact qV.drew.putOther _ (by omega)
        have mU : Has U (w.heap.size + 1) (mapO colV intV m) := by rw [← hU]; exact World.putObj_heap_same (by have := mV.drew.lt; exact this)
        have csU : ColS wr.heap.size (w.heap.size + 1) (c0, c1, c2, c3) v U := ⟨qU, _, mU, hst.by_, hst.nodup, by rw [lkV]; rfl⟩
        have gU : Grew [w.heap.size + 1] V U := by rw [← hU]; exact (Grew.refl _ _).drew.putObj _ (.inl (by simp))
        have hsto : (Instr.entryStore 168 (.map (some (w.heap.size + 1))) (.int .i64 j) (.int .i64 (v + 1))).run Try.prog U = .ok () (U.putObj (w.heap.size + 1) (mapO colV intV (m.set j ((c0, c1, c2, c3), v + 1)))) :=
          map_entry_store (P := Try.prog) (t := 168) (vv := intV) mU HJ.out (v + 1)
        refine ⟨csU, ?_⟩
        have T2 := Lib.hid (And.intro qU (And.intro mU gU))
        clear hU hn hst hc hcb htk qV mV oV bV szV lkV qU mU gU csU hent hcs
        repeat (refine tree_pure (v := ?_) rfl rfl ?_ ?_; rotate_left; (focus (intro Y hY; have y0 := hY.four; go_simp; try with_reducible rfl)); go_simp; try go_bits)
        refine tree_last rfl rfl ?_
        go_simp
        generalize hU2 : World.putObj _ _ _ = U2
        obtain ⟨hn, hst, hc, hcb, htk⟩ := S.out
        obtain ⟨qV, mV, oV, bV, szV, lkV⟩ := T1.out
        obtain ⟨qU, mU, gU⟩ := T2.out
        have hfst : (m.set j ((c0, c1, c2, c3), v + 1)).map Prod.fst = m.map Prod.fst := by
          apply List.ext_getElem?
          intro q
          rw [List.getElem?_map, List.getElem?_map, List.getElem?_set]
          by_cases hq : j = q
          · subst hq
            rw [HJ.out]
            simp [(List.getElem?_eq_some_iff.1 HJ.out).1]
          · rw [if_neg hq]
        have hset : (m.set j ((c0, c1, c2, c3), v + 1))[j]? = some ((c0, c1, c2, c3), v + 1) := by
          rw [List.getElem?_set, if_pos rfl, if_pos (List.getElem?_eq_some_iff.1 HJ.out).1]
        have hmem : ∀ p ∈ m.set j ((c0, c1, c2, c3), v + 1), p ∈ m ∨ p = ((c0, c1, c2, c3), v + 1) := fun p hp => List.mem_or_eq_of_mem_set hp
        have q2 : Has U2 wr.heap.size (.cells (colC (c0, c1, c2, c3)) 23 (0, 0)) := by rw [← hU2]; exact qU.putOther _ (by omega)
        have m2 : Has U2 (w.heap.size + 1) (mapO colV intV (m.set j ((c0, c1, c2, c3), v + 1))) := by rw [← hU2]; exact World.putObj_heap_same (by have := mU.lt; exact this)
        have g2 : Grew [w.heap.size + 1] V U2 := by rw [← hU2]; exact gU.putObj _ (.inl (by simp))
        have nd2 : ((m.set j ((c0, c1, c2, c3), v + 1)).map Prod.fst).Nodup := by rw [hfst]; exact hst.nodup
        have by2 : ∀ p ∈ m.set j ((c0, c1, c2, c3), v + 1), ByC p.1 := by
          intro p hp
          rcases hmem p hp with h | rfl
          · exact hst.by_ p h
          · exact hcb
        have lk2 : lkp (m.set j ((c0, c1, c2, c3), v + 1)) (c0, c1, c2, c3) = some (v + 1) := lkp_some nd2 hset
        have cs2 : ColS wr.heap.size (w.heap.size + 1) (c0, c1, c2, c3) (v + 1) U2 := ⟨q2, _, m2, by2, nd2, by rw [lk2]; rfl⟩
        have hl := cs2.look hcb
        have y0 := cs2.four
        have o2 := oV.kept g2.one (.inr fun e => by have := oV.lt _ e; omega)
        have b2 : Below w.heap.size w U2 := bV.trans (g2.below (by omega) (by simp))
        have s2 : w.heap.size + 2 ≤ U2.heap.size := by have := g2.size; omega
        have T4 := Lib.hid (And.intro b2 (And.intro s2 (And.intro o2 (And.intro m2 (And.intro by2 (And.intro hfst hmem))))))
        clear hU2 hn hst hc hcb htk qV mV oV bV szV lkV qU mU gU q2 m2 g2 nd2 by2 lk2 cs2 hsto b2 o2 s2 hfst hset hmem hw
        go_wp2
        obtain ⟨hn, hst, hc, hcb, htk⟩ := S.out
        obtain ⟨b2, s2, o2, m2, by2, hfst, hmem⟩ := T4.out
        go_roundg (64 - (k + 1))
        case measure => omega
        case rel =>
          have hnf : (c0, c1, c2, c3) ∈ firstsL (T.take k) := by rw [← hst.fst]; exact List.mem_map.2 ⟨_, List.mem_of_getElem? HJ.out, rfl⟩
          have hf : firstsL (T.take (k + 1)) = firstsL (T.take k) := by rw [htk, firstsL_snoc, if_pos hnf]
          refine ⟨k + 1, m.set j ((c0, c1, c2, c3), v + 1), rfl, by go_num, ⟨by omega, m2, ?_, ?_, by2, ?_, s2, b2⟩⟩
          · rw [hfst, hst.fst, hf]
          · intro p hp
            rcases hmem p hp with h | rfl
            · have := hst.cnt p h; omega
            · have := hst.cnt _ (List.mem_of_getElem? HJ.out); simp only [] at this ⊢; omega
          · rw [hf]; exact o2
      · have HN := Lib.hid hold
        clear hold
        go_wp2
        clear hi
        obtain ⟨hn, hst, hc, hcb, htk⟩ := S.out
        generalize hV : wr.alloc (.cells #[.int .u8 c0, .int .u8 c1, .int .u8 c2, .int .u8 c3] 23) = V
        have qV : Has V wr.heap.size (.cells #[.int .u8 c0, .int .u8 c1, .int .u8 c2, .int .u8 c3] 23 (0, 0)) := by rw [← hV]; exact Has.new _ _
        have mV : Has V (w.heap.size + 1) (mapO colV intV m) := by rw [← hV]; exact hst.has.alloc _
        have oV := hst.own.alloc (.cells #[.int .u8 c0, .int .u8 c1, .int .u8 c2, .int .u8 c3] 23)
        rw [hV] at oV
        have bV : Below w.heap.size w V := by rw [← hV]; exact hst.bel.alloc hst.bel.size _
        have szV : V.heap.size = wr.heap.size + 1 := by rw [← hV]; simp
        have lkV : lkp m (c0, c1, c2, c3) = none := lkp_none HN.out
        have lkV' : lkp (m ++ [((c0, c1, c2, c3), (0 : Int))]) (c0, c1, c2, c3) = some 0 := lkp_some (j := m.length) (by
          rw [List.map_append, List.nodup_append]; exact ⟨hst.nodup, by simp, fun a ha b hb => by simp at hb; subst hb; rintro rfl; exact HN.out ha⟩) (by simp)
        have z3 : (zeroValue 3).run Try.prog V.drew = .ok (.int .i64 0) V.drew := by kernel_rfl
        have hent : (Instr.mapEntry 168 (.map (some (w.heap.size + 1))) (.agg (colC (c0, c1, c2, c3)))).run Try.prog V.drew = .ok (.tuple #[.int .i64 0, .int .i64 m.length]) (V.drew.putObj (w.heap.size + 1) (mapO colV intV (m ++ [((c0, c1, c2, c3), (0 : Int))]))) :=
          map_entry_new (vv := intV) (W := V.drew) (z := 0) keys23 Try.underlying168 z3 mV.drew hst.by_ hcb HN.out
        have hcs : ColS wr.heap.size (w.heap.size + 1) (c0, c1, c2, c3) 0 V.drew := ⟨qV.drew, m, mV.drew, hst.by_, hst.nodup, by rw [lkV]; rfl⟩
        have T1 := Lib.hid (And.intro qV (And.intro mV (And.intro oV (And.intro bV (And.intro szV lkV')))))
        clear hn hst hc htk hV lkV lkV' z3 qV mV oV bV szV
        have HCB := Lib.hid hcb
        clear hcb
        refine wp_region_tree (.pure 0 (.pure 1 (.pure 2 (.pure 3 (.act 4 (.pure 5 (.last 6))))))) (ColS wr.heap.size (w.heap.size + 1) (c0, c1, c2, c3) 0)
          (by kernel_rfl) (by kernel_rfl) (by kernel_rfl) hcs ?_
        repeat (refine tree_pure (v := ?_) rfl rfl ?_ ?_; rotate_left; (focus (intro Y hY; have y0 := hY.four; have hl := hY.look HCB.out; go_simp; try with_reducible rfl)); go_simp; try go_bits)
        refine tree_act rfl rfl ?_
        go_simp
        generalize hU : World.putObj _ _ _ = U
        obtain ⟨hn, hst, hc, hcb, htk⟩ := S.out
        obtain ⟨qV, mV, oV, bV, szV, lkV'⟩ := T1.out
        have qU : Has U wr.heap.size (.cells (colC (c0, c1, c2, c3)) 23 (0, 0)) := by rw [← hU]; exact qV.drew.putOther _ (by omega)
        have mU : Has U (w.heap.size + 1) (mapO colV intV (m ++ [((c0, c1, c2, c3), (0 : Int))])) := by rw [← hU]; exact World.putObj_heap_same (by have := mV.drew.lt; exact this)
        have nd1 : ((m ++ [((c0, c1, c2, c3), (0 : Int))]).map Prod.fst).Nodup := by
          rw [List.map_append, List.nodup_append]; exact ⟨hst.nodup, by simp, fun a ha b hb => by simp at hb; subst hb; rintro rfl; exact HN.out ha⟩
        have by1 : ∀ p ∈ m ++ [((c0, c1, c2, c3), (0 : Int))], ByC p.1 := by
          intro p hp
          rcases List.mem_append.1 hp with h | h
          · exact hst.by_ p h
          · simp at h; rw [h]; exact hcb
        have csU : ColS wr.heap.size (w.heap.size + 1) (c0, c1, c2, c3) 0 U := ⟨qU, _, mU, by1, nd1, by rw [lkV']; rfl⟩
        have gU : Grew [w.heap.size + 1] V U := by rw [← hU]; exact (Grew.refl _ _).drew.putObj _ (.inl (by simp))
        have hsto : (Instr.entryStore 168 (.map (some (w.heap.size + 1))) (.int .i64 m.length) (.int .i64 1)).run Try.prog U = .ok () (U.putObj (w.heap.size + 1) (mapO colV intV (m ++ [((c0, c1, c2, c3), (1 : Int))]))) := by
          have := map_entry_store (P := Try.prog) (t := 168) (vv := intV) mU (j := m.length) (p := ((c0, c1, c2, c3), (0 : Int))) (by simp) 1
          rw [show (m ++ [((c0, c1, c2, c3), (0 : Int))]).set m.length ((c0, c1, c2, c3), (1 : Int)) = m ++ [((c0, c1, c2, c3), (1 : Int))] by simp] at this
          exact this
        refine ⟨csU, ?_⟩
        have T2 := Lib.hid (And.intro qU (And.intro mU (And.intro gU (And.intro nd1 by1))))
        clear hU hn hst hc hcb htk qV mV oV bV szV lkV' qU mU gU nd1 by1 csU hent hcs
        repeat (refine tree_pure (v := ?_) rfl rfl ?_ ?_; rotate_left; (focus (intro Y hY; have y0 := hY.four; go_simp; try with_reducible rfl)); go_simp; try go_bits)
        refine tree_last rfl rfl ?_
        go_simp
        generalize hU2 : World.putObj _ _ _ = U2
        obtain ⟨hn, hst, hc, hcb, htk⟩ := S.out
        obtain ⟨qV, mV, oV, bV, szV, lkV'⟩ := T1.out
        obtain ⟨qU, mU, gU, nd1, by1⟩ := T2.out
        have q2 : Has U2 wr.heap.size (.cells (colC (c0, c1, c2, c3)) 23 (0, 0)) := by rw [← hU2]; exact qU.putOther _ (by omega)
        have m2 : Has U2 (w.heap.size + 1) (mapO colV intV (m ++ [((c0, c1, c2, c3), (1 : Int))])) := by rw [← hU2]; exact World.putObj_heap_same (by have := mU.lt; exact this)
        have g2 : Grew [w.heap.size + 1] V U2 := by rw [← hU2]; exact gU.putObj _ (.inl (by simp))
        have nd2 : ((m ++ [((c0, c1, c2, c3), (1 : Int))]).map Prod.fst).Nodup := by
          rw [List.map_append, List.nodup_append]; exact ⟨hst.nodup, by simp, fun a ha b hb => by simp at hb; subst hb; rintro rfl; exact HN.out ha⟩
        have by2 : ∀ p ∈ m ++ [((c0, c1, c2, c3), (1 : Int))], ByC p.1 := by
          intro p hp
          rcases List.mem_append.1 hp with h | h
          · exact hst.by_ p h
          · simp at h; rw [h]; exact hcb
        have lk2 : lkp (m ++ [((c0, c1, c2, c3), (1 : Int))]) (c0, c1, c2, c3) = some 1 := lkp_some (j := m.length) nd2 (by simp)
        have cs2 : ColS wr.heap.size (w.heap.size + 1) (c0, c1, c2, c3) 1 U2 := ⟨q2, _, m2, by2, nd2, by rw [lk2]; rfl⟩
        have hl := cs2.look hcb
        have y0 := cs2.four
        have T3 := Lib.hid (And.intro q2 (And.intro m2 (And.intro g2 (And.intro by2 trivial))))
        have o2 := oV.kept g2.one (.inr fun e => by have := oV.lt _ e; omega)
        have n2 := firstsL_le (T.take k)
        have n3 : (T.take k).length ≤ 64 := by rw [List.length_take]; omega
        have b2 : Below w.heap.size w U2 := bV.trans (g2.below (by omega) (by simp))
        have s2 : w.heap.size + 2 ≤ U2.heap.size := by have := g2.size; omega
        have T4 := Lib.hid (And.intro b2 s2)
        clear hU2 hn hst hc hcb htk qV mV oV bV szV lkV' qU mU gU nd1 by1 q2 m2 g2 nd2 by2 lk2 cs2 hsto b2
        go_wp2_with (at_builtin; refine wpList_append_own _ rfl _ _ 26 rfl (w.heap.size + 2) 23 _ (.agg #[.int .u8 0, .int .u8 0, .int .u8 0, .int .u8 0]) 4 4 Try.underlying26 rfl rfl rfl rfl rfl (by omega) _ _ _ rfl (o2.alloc _) ⟨U2.heap.size, 0, none⟩ 1 1 (colsV [(c0, c1, c2, c3)]) rfl rfl (news_col U2 (c0, c1, c2, c3) 23) (colsV_one _) ?b1 ?b2 ?b3 ?_)
        case b1 => unfold maxLen; omega
        case b2 => omega
        case b3 => omega
        intro v' w4 hO4 hg4 _
        have T5 := Lib.hid (And.intro hO4 hg4)
        clear hO4 hg4 o2 n2 n3 s2 y0 hl
        go_wp2
        obtain ⟨hn, hst, hc, hcb, htk⟩ := S.out
        obtain ⟨q2, m2, g2, by2, -⟩ := T3.out
        obtain ⟨b2, s2⟩ := T4.out
        obtain ⟨hO4, hg4⟩ := T5.out
        go_roundg (64 - (k + 1))
        case measure => omega
        case rel =>
          have hnf : (c0, c1, c2, c3) ∉ firstsL (T.take k) := by rw [← hst.fst]; exact HN.out
          have hf : firstsL (T.take (k + 1)) = firstsL (T.take k) ++ [(c0, c1, c2, c3)] := by rw [htk, firstsL_snoc, if_neg hnf]
          refine ⟨k + 1, m ++ [((c0, c1, c2, c3), (1 : Int))], rfl, by go_num, ⟨by omega, ?_, ?_, ?_, by2, ?_, ?_, ?_⟩⟩
          · exact (m2.alloc _).kept hg4 (fun e => by have := (hst.own.lt _ e.symm).1; omega)
          · rw [List.map_append, hst.fst, hf]; rfl
          · intro p hp
            rcases List.mem_append.1 hp with h | h
            · have := hst.cnt p h; omega
            · simp at h; rw [h]; simp; omega
          · rw [hf, List.length_append]
            rw [colsV_snoc]; exact hO4
          · have := hg4.size; simp at this; omega
          · exact (b2.alloc b2.size _).grown hg4 (by simp; omega) (fun j e => by have := (hst.own.lt _ e).1; omega)
    · obtain rfl : k = 64 := by have := hst.kle; omega
      have ht : T.take 64 = T := List.take_of_length_le (by rw [HT.out.1]; exact Nat.le_refl _)
      have hO := hst.own
      rw [ht] at hO
      have n2 := firstsL_le T
      rw [HT.out.1] at n2
      obtain ⟨ad, cap, rfl, hrow, _⟩ := cols_of_own (by unfold maxLen; omega) (fun c hc => HT.out.2 c ((firstsL_sub T c).1 hc)) hO
      have T1 := Lib.hid (And.intro hrow hst.bel)
      clear hO hrow hst hn ht
      go_wp2
      go_ret
      exact ⟨ad, cap, rfl, T1.out.1, T1.out.2⟩
end Go.Proofs.Ytedckelfdkfkoaa
