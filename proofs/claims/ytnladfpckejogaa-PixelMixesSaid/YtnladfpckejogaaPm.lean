/- What colours over others, and between others, come to. -/
import Derived.Test.YtnladfpckejogaaPf
import Derived.Test.YtnladfpckejogaaL
import Derived.Test.YtnladfpckejogaaS
import Derived.Deep.AppendLies
namespace Go.Proofs.Ytnladfpckejogaa
open Go.RowKit Go.Shelf
attribute [local go_sem] Oper.semAt_some
attribute [local go_sem 2000] run_col
attribute [local go_sem] colB_self

/-- two colours, and a part -/
abbrev Tri := Col × Col × Int
def TriAt (W : World) (p : Addr) (x : Tri) : Prop := ColAt W p x.1 ∧
  (W.cell? ⟨p.block, p.off + 4, none⟩ = some (.int .u8 x.2.1.1) ∧ W.cell? ⟨p.block, p.off + 5, none⟩ = some (.int .u8 x.2.1.2.1) ∧ W.cell? ⟨p.block, p.off + 6, none⟩ = some (.int .u8 x.2.1.2.2.1) ∧ W.cell? ⟨p.block, p.off + 7, none⟩ = some (.int .u8 x.2.1.2.2.2)) ∧
  W.cell? ⟨p.block, p.off + 8, none⟩ = some (.int .u8 x.2.2)
structure TriRow (W : World) (ad : Option Addr) (l : List Tri) : Prop where
  len : l.length ≤ maxLen
  at_ : ∀ i c, l[i]? = some c → ∃ a, ad = some a ∧ TriAt W (a.add (i * 9)) c
  by_ : ∀ c ∈ l, ByC c.1 ∧ ByC c.2.1 ∧ By c.2.2
theorem TriAt.below {W W' : World} {p : Addr} {c : Tri} (h : TriAt W p c) (hb : Below W.heap.size W W') : TriAt W' p c :=
  ⟨h.1.below hb, ⟨(hb.cell (cell_lt h.2.1.1)).trans h.2.1.1, (hb.cell (cell_lt h.2.1.2.1)).trans h.2.1.2.1, (hb.cell (cell_lt h.2.1.2.2.1)).trans h.2.1.2.2.1, (hb.cell (cell_lt h.2.1.2.2.2)).trans h.2.1.2.2.2⟩, (hb.cell (cell_lt h.2.2)).trans h.2.2⟩
theorem TriRow.below {W W' : World} {ad : Option Addr} {l : List Tri} (h : TriRow W ad l) (hb : Below W.heap.size W W') : TriRow W' ad l :=
  ⟨h.len, fun i c hi => let ⟨a, e, hc⟩ := h.at_ i c hi; ⟨a, e, hc.below hb⟩, h.by_⟩
theorem ownsRow_below {W W' : World} {base size n : Nat} {e : TypeId} {v : Value} {xs : List Value} (h : W.ownsRow base e size v n xs) (hb : Below W.heap.size W W') : W'.ownsRow base e size v n xs :=
  h.kept (row := none) ⟨hb.os, hb.tape, hb.output, hb.size, fun k hk _ => hb.block k hk⟩ (by cases hh : v.ownBlock with | none => exact .inl rfl | some g => exact .inr (by simp))

set_option maxRecDepth 100000 in
set_option maxHeartbeats 2000000 in
theorem mixes_any (ad : Option Addr) (cap : Nat) (l : List Tri) (w : World) (h : TriRow w ad l) :
    Calls Try.prog 8 #[.slice ad l.length cap] w fun e w' => e = .returned (.bool true) ∧ Below w.heap.size w w' := by
  have n1 := h.len
  unfold maxLen at n1
  generalize hm : l.length = m at *
  have A := Lib.hid (And.intro hm h)
  clear hm h
  go_enter Try.func8, Try.ntmps8
  go_wp2_with (fail)
  refine (wakes_any _).mono ?_
  rintro e w1 ⟨rfl, B1⟩
  go_wp2_with (fail)
  have z0 := Has.new w1 (.cells #[.int .u8 0, .int .u8 0, .int .u8 0, .int .u8 0] 27 (0, 0))
  have BX := B1.alloc B1.size (.cells #[.int .u8 0, .int .u8 0, .int .u8 0, .int .u8 0] 27 (0, 0))
  have sB := B1.size
  have sX : w1.heap.size + 1 = (w1.alloc (.cells #[.int .u8 0, .int .u8 0, .int .u8 0, .int .u8 0] 27 (0, 0))).heap.size := by simp
  generalize hX : World.alloc _ _ = X at *
  clear hX B1
  go_loopg [3, 13] m (fun n v i wr => ∃ (k : Nat) (bs : List Col) (v0 v1 v2 v3 : Int), k ≤ m ∧ n = m - k ∧ i = .int .i64 k ∧ k ≤ 12 ∧ bs.length = k ∧ (∀ c ∈ bs, ByC c) ∧ bs.foldl overC (0, 0, 0, 0) = (v0, v1, v2, v3) ∧ ByC (v0, v1, v2, v3) ∧
    wr.ownsRow X.heap.size 27 4 v k (colsV bs) ∧ Has wr w1.heap.size (.cells #[.int .u8 v0, .int .u8 v1, .int .u8 v2, .int .u8 v3] 27 (0, 0)) ∧ Below w.heap.size w wr ∧ X.heap.size ≤ wr.heap.size)
  case atStart => exact ⟨0, [], 0, 0, 0, 0, by omega, by omega, rfl, by omega, rfl, fun c hc => by simp at hc, rfl, by unfold ByC By; decide, World.ownsRow_nil _ _ _ _, z0, BX, Nat.le_refl _⟩
  case round =>
    clear z0 BX
    obtain ⟨k, bs, v0, v1, v2, v3, hk, hn, rfl, hk12, hbl, hbs, hfo, hwv, hO, j4, hb, hXs⟩ := hrel
    by_cases hlt : k < m
    · obtain ⟨hm, h⟩ := A.out
      obtain ⟨d, hd⟩ : ∃ c, l[k]? = some c := ⟨_, List.getElem?_eq_getElem (by omega)⟩
      obtain ⟨p, rfl, q9⟩ := (h.below hb).at_ k d hd
      obtain ⟨ha, hB, hq⟩ := h.by_ d (List.mem_of_getElem? hd)
      obtain ⟨⟨a0, a1, a2, a3⟩, ⟨b0, b1, b2, b3⟩, q⟩ := d
      obtain ⟨qa, qb, qc⟩ := q9
      unfold ColAt at qa
      simp only [] at qa qb qc ha hB hq
      have hb := hb
      have N := Lib.hid (And.intro hn (And.intro hk12 (And.intro hbl (And.intro hbs (And.intro hfo (And.intro hwv (And.intro hO (And.intro j4 (And.intro hb hXs)))))))))
      clear hn hk12 hbl hbs hfo hwv hO j4 hXs hm h hd hb
      by_cases h12 : k = 12
      · have e12 : ((k : Int) == 12) = true := by rw [h12]; rfl
        clear h12
        go_wp2
        go_ret
        exact ⟨rfl, hb.alloc hb.size _⟩
      · have e12 : ((k : Int) == 12) = false := by rw [Bool.eq_false_iff]; simp; omega
        have hk11 : k < 12 := by have := N.out.2.1; omega
        clear h12
        go_wp2_with (fail)
        clear qa qb qc
        have j6 := Has.new wr (.cells #[.int .u8 a0, .int .u8 a1, .int .u8 a2, .int .u8 a3, .int .u8 b0, .int .u8 b1, .int .u8 b2, .int .u8 b3, .int .u8 q] 53 (0, 0))
        obtain ⟨hn, hk12, hbl, hbs, hfo, hwv, hO, j4, _, hXs⟩ := N.out
        have j4 := j4.alloc (.cells #[.int .u8 a0, .int .u8 a1, .int .u8 a2, .int .u8 a3, .int .u8 b0, .int .u8 b1, .int .u8 b2, .int .u8 b3, .int .u8 q] 53 (0, 0))
        have hO := hO.alloc (.cells #[.int .u8 a0, .int .u8 a1, .int .u8 a2, .int .u8 a3, .int .u8 b0, .int .u8 b1, .int .u8 b2, .int .u8 b3, .int .u8 q] 53 (0, 0))
        have hbU := hb.alloc hb.size (.cells #[.int .u8 a0, .int .u8 a1, .int .u8 a2, .int .u8 a3, .int .u8 b0, .int .u8 b1, .int .u8 b2, .int .u8 b3, .int .u8 q] 53 (0, 0))
        have sU : (wr.alloc (.cells #[.int .u8 a0, .int .u8 a1, .int .u8 a2, .int .u8 a3, .int .u8 b0, .int .u8 b1, .int .u8 b2, .int .u8 b3, .int .u8 q] 53 (0, 0))).heap.size = wr.heap.size + 1 := by simp
        generalize hU : World.alloc _ _ = U at *
        clear hU
        have M := Lib.hid (And.intro hn (And.intro hbl (And.intro hbs (And.intro hfo (And.intro hwv (And.intro hO (And.intro j4 (And.intro hbU (And.intro hXs sU)))))))))
        clear hn hk12 hbl hbs hfo hwv hO j4 hbU hXs sU hb N
        have L0 : ∀ {w'}, Below U.drew.heap.size U.drew w' → w'.cell? ⟨wr.heap.size, 0, none⟩ = some (.int .u8 a0) ∧ w'.cell? ⟨wr.heap.size, 1, none⟩ = some (.int .u8 a1) ∧ w'.cell? ⟨wr.heap.size, 2, none⟩ = some (.int .u8 a2) ∧ w'.cell? ⟨wr.heap.size, 3, none⟩ = some (.int .u8 a3) ∧ w'.cell? ⟨wr.heap.size, 4, none⟩ = some (.int .u8 b0) ∧ w'.cell? ⟨wr.heap.size, 5, none⟩ = some (.int .u8 b1) ∧ w'.cell? ⟨wr.heap.size, 6, none⟩ = some (.int .u8 b2) ∧ w'.cell? ⟨wr.heap.size, 7, none⟩ = some (.int .u8 b3) ∧ w'.cell? ⟨wr.heap.size, 8, none⟩ = some (.int .u8 q) := fun hB => (let h := j6.drew.below hB j6.drew.lt; ⟨h.cell 0, h.cell 1, h.cell 2, h.cell 3, h.cell 4, h.cell 5, h.cell 6, h.cell 7, h.cell 8⟩)
        refine wp_region_fresh 27 [(27, false)]
          [(fun _ => .pointer (some ⟨wr.heap.size, 0, none⟩), none),
           (fun _ => .agg #[.int .u8 a0, .int .u8 a1, .int .u8 a2, .int .u8 a3], none),
           (fun _ => .pointer (some ⟨wr.heap.size, 4, none⟩), none),
           (fun _ => .agg #[.int .u8 b0, .int .u8 b1, .int .u8 b2, .int .u8 b3], none),
           (fun _ => .agg #[.int .u8 (shareZ a0 b0 b3), .int .u8 (shareZ a1 b1 b3), .int .u8 (shareZ a2 b2 b3), .int .u8 ((b3 + shareZ a3 0 b3) % 256)], none),
           (fun _ => .pointer (some ⟨wr.heap.size, 0, none⟩), none),
           (fun _ => .agg #[.int .u8 a0, .int .u8 a1, .int .u8 a2, .int .u8 a3], none),
           (fun _ => .pointer (some ⟨wr.heap.size, 4, none⟩), none),
           (fun _ => .agg #[.int .u8 b0, .int .u8 b1, .int .u8 b2, .int .u8 b3], none),
           (fun _ => .agg #[.int .u8 (shareZ a0 b0 b3), .int .u8 (shareZ a1 b1 b3), .int .u8 (shareZ a2 b2 b3), .int .u8 ((b3 + shareZ a3 0 b3) % 256)], none),
           (fun _ => .bool false, none),
           (fun _ => .bool false, none),
           (fun _ => .pointer (some ⟨wr.heap.size, 0, none⟩), none),
           (fun _ => .agg #[.int .u8 a0, .int .u8 a1, .int .u8 a2, .int .u8 a3], none),
           (fun _ => .pointer (some ⟨wr.heap.size, 4, none⟩), none),
           (fun _ => .agg #[.int .u8 b0, .int .u8 b1, .int .u8 b2, .int .u8 b3], none),
           (fun _ => .pointer (some ⟨wr.heap.size, 8, none⟩), none),
           (fun _ => .int .u8 q, none),
           (fun _ => .agg #[.int .u8 (shareZ a0 b0 q), .int .u8 (shareZ a1 b1 q), .int .u8 (shareZ a2 b2 q), .int .u8 (shareZ a3 b3 q)], none),
           (fun _ => .pointer (some ⟨wr.heap.size, 0, none⟩), none),
           (fun _ => .agg #[.int .u8 a0, .int .u8 a1, .int .u8 a2, .int .u8 a3], none),
           (fun _ => .pointer (some ⟨wr.heap.size, 4, none⟩), none),
           (fun _ => .agg #[.int .u8 b0, .int .u8 b1, .int .u8 b2, .int .u8 b3], none),
           (fun _ => .pointer (some ⟨wr.heap.size, 8, none⟩), none),
           (fun _ => .int .u8 q, none),
           (fun _ => .agg #[.int .u8 (shareZ a0 b0 q), .int .u8 (shareZ a1 b1 q), .int .u8 (shareZ a2 b2 q), .int .u8 (shareZ a3 b3 q)], none),
           (fun _ => .bool false, none)] (fun _ _ => True) (by kernel_rfl) (by kernel_rfl) rfl ?_
        intro z
        refine fresh_pure rfl rfl (fun w' hB_ => by go_simp) ?_
        go_simp
        refine fresh_pure rfl rfl (fun w' hB_ => by have l0 := L0 hB_; go_simp) ?_
        go_simp
        refine fresh_pure rfl rfl (fun w' hB_ => by go_simp) ?_
        go_simp
        refine fresh_pure rfl rfl (fun w' hB_ => by have l0 := L0 hB_; go_simp) ?_
        go_simp
        refine fresh_call rfl rfl (fun w' hB_ hA => by go_simp) (fun w' hB_ hA => over_any a0 a1 a2 a3 b0 b1 b2 b3 w' ha.1 ha.2.1 ha.2.2.1 ha.2.2.2 hB.1 hB.2.1 hB.2.2.1 hB.2.2.2) ?_
        go_simp
        refine fresh_pure rfl rfl (fun w' hB_ => by go_simp) ?_
        go_simp
        refine fresh_pure rfl rfl (fun w' hB_ => by have l0 := L0 hB_; go_simp) ?_
        go_simp
        refine fresh_pure rfl rfl (fun w' hB_ => by go_simp) ?_
        go_simp
        refine fresh_pure rfl rfl (fun w' hB_ => by have l0 := L0 hB_; go_simp) ?_
        go_simp
        refine fresh_call rfl rfl (fun w' hB_ hA => by go_simp) (fun w' hB_ hA => rover_any a0 a1 a2 a3 b0 b1 b2 b3 w' ha.1 ha.2.1 ha.2.2.1 ha.2.2.2 hB.1 hB.2.1 hB.2.2.1 hB.2.2.2) ?_
        go_simp
        refine fresh_pure rfl rfl (fun w' hB_ => by go_simp) ?_
        go_simp
        refine fresh_pure rfl rfl (fun w' hB_ => by go_simp) ?_
        go_simp
        refine fresh_pure rfl rfl (fun w' hB_ => by go_simp) ?_
        go_simp
        refine fresh_pure rfl rfl (fun w' hB_ => by have l0 := L0 hB_; go_simp) ?_
        go_simp
        refine fresh_pure rfl rfl (fun w' hB_ => by go_simp) ?_
        go_simp
        refine fresh_pure rfl rfl (fun w' hB_ => by have l0 := L0 hB_; go_simp) ?_
        go_simp
        refine fresh_pure rfl rfl (fun w' hB_ => by go_simp) ?_
        go_simp
        refine fresh_pure rfl rfl (fun w' hB_ => by have l0 := L0 hB_; go_simp) ?_
        go_simp
        refine fresh_call rfl rfl (fun w' hB_ hA => by go_simp) (fun w' hB_ hA => mix_any a0 a1 a2 a3 b0 b1 b2 b3 q w' ha.1 ha.2.1 ha.2.2.1 ha.2.2.2 hB.1 hB.2.1 hB.2.2.1 hB.2.2.2 hq) ?_
        go_simp
        refine fresh_pure rfl rfl (fun w' hB_ => by go_simp) ?_
        go_simp
        refine fresh_pure rfl rfl (fun w' hB_ => by have l0 := L0 hB_; go_simp) ?_
        go_simp
        refine fresh_pure rfl rfl (fun w' hB_ => by go_simp) ?_
        go_simp
        refine fresh_pure rfl rfl (fun w' hB_ => by have l0 := L0 hB_; go_simp) ?_
        go_simp
        refine fresh_pure rfl rfl (fun w' hB_ => by go_simp) ?_
        go_simp
        refine fresh_pure rfl rfl (fun w' hB_ => by have l0 := L0 hB_; go_simp) ?_
        go_simp
        refine fresh_call rfl rfl (fun w' hB_ hA => by go_simp) (fun w' hB_ hA => rmix_any a0 a1 a2 a3 b0 b1 b2 b3 q w' ha.1 ha.2.1 ha.2.2.1 ha.2.2.2 hB.1 hB.2.1 hB.2.2.1 hB.2.2.2 hq) ?_
        go_simp
        refine fresh_pure rfl rfl (fun w' hB_ => by go_simp) ?_
        go_simp
        refine fresh_end fun V hBV hAV hD => ?_
        have j6 := j6.drew.below hBV j6.drew.lt
        have M1 := Lib.hid (show V.ownsRow X.heap.size 27 4 u3 k (colsV bs) ∧ Has V w1.heap.size (.cells #[.int .u8 v0, .int .u8 v1, .int .u8 v2, .int .u8 v3] 27 (0, 0)) ∧ Below w.heap.size w V ∧ X.heap.size ≤ V.heap.size ∧ wr.heap.size < V.heap.size from
          ⟨ownsRow_below M.out.2.2.2.2.2.1.drew hBV, (M.out.2.2.2.2.2.2.1.drew).below hBV M.out.2.2.2.2.2.2.1.drew.lt, M.out.2.2.2.2.2.2.2.1.drew.trans (hBV.mono M.out.2.2.2.2.2.2.2.1.drew.size), (by have h1 := M.out.2.2.2.2.2.2.2.2.1; have h2 := M.out.2.2.2.2.2.2.2.2.2; have h3 : U.heap.size ≤ V.heap.size := hBV.size; omega), (by have h2 := M.out.2.2.2.2.2.2.2.2.2; have h3 : U.heap.size ≤ V.heap.size := hBV.size; omega)⟩)
        clear L0 hBV hAV hD
        go_simp
        repeat (refine sched_pure (v := ?_) rfl rfl ?_ ?_; rotate_left; (focus (intro Y hY; go_simp; try with_reducible rfl)); go_simp; try go_bits)
        refine sched_end ?_
        go_wp2_with (fail)
        have j4 := M1.out.2.1
        refine wp_region_tree (.pure 0 (.pure 1 (.pure 2 (.pure 5 (.pure 6 (.pure 7 (.act 3 (.act 4 (.act 8 (.pure 9 (.last 10))))))))))) (fun Y => Has Y wr.heap.size (.cells #[.int .u8 a0, .int .u8 a1, .int .u8 a2, .int .u8 a3, .int .u8 b0, .int .u8 b1, .int .u8 b2, .int .u8 b3, .int .u8 q] 53 (0, 0)) ∧ Has Y w1.heap.size (.cells #[.int .u8 v0, .int .u8 v1, .int .u8 v2, .int .u8 v3] 27 (0, 0))) (by kernel_rfl) (by kernel_rfl) (by kernel_rfl) ⟨j6.drew, j4.drew⟩ ?_
        repeat (refine tree_pure (v := ?_) rfl rfl ?_ ?_; rotate_left; (focus (intro Y hY; have y0 := And.intro (hY.1.cell 4) (And.intro (hY.1.cell 5) (And.intro (hY.1.cell 6) (hY.1.cell 7))); have y1 := hY.2.four; go_simp; try with_reducible rfl)); go_simp; try go_bits)
        refine tree_act rfl rfl ?_
        go_simp
        have s6 := (j6.alloc (.cells #[.int .u8 b0, .int .u8 b1, .int .u8 b2, .int .u8 b3] 27 (0, 0))).drew
        have s4 := (j4.alloc (.cells #[.int .u8 b0, .int .u8 b1, .int .u8 b2, .int .u8 b3] 27 (0, 0))).drew
        have sr := (M1.out.1.alloc (.cells #[.int .u8 b0, .int .u8 b1, .int .u8 b2, .int .u8 b3] 27 (0, 0))).drew
        have own := hO.lt
        have hs1 := M1.out.2.2.2.1
        have hs2 := M1.out.2.2.2.2
        have hbl := M.out.2.1
        refine ⟨⟨s6, s4⟩, ?_⟩
        refine tree_act rfl rfl ?_
        refine wp_append_own (World.drew (World.alloc V (.cells #[.int .u8 b0, .int .u8 b1, .int .u8 b2, .int .u8 b3] 27 (0, 0)))) (.tmp 48) (.tmp 51) 22 rfl X.heap.size 27 _ (.agg #[.int .u8 0, .int .u8 0, .int .u8 0, .int .u8 0]) 4 4 (by kernel_rfl) rfl rfl rfl rfl rfl (by omega) u3 k (colsV bs) rfl sr ⟨V.heap.size, 0, none⟩ 1 1 (colsV [(b0, b1, b2, b3)]) rfl rfl ?news (colsV_one _) (by unfold maxLen; omega) (by omega) (by simp; omega) ?_
        case news =>
          intro j u hj
          have hc := (Has.new V (.cells #[.int .u8 b0, .int .u8 b1, .int .u8 b2, .int .u8 b3] 27 (0, 0))).drew
          match j, hj with
          | 0, hj => cases hj; exact hc.cell 0
          | 1, hj => cases hj; exact hc.cell 1
          | 2, hj => cases hj; exact hc.cell 2
          | 3, hj => cases hj; exact hc.cell 3
          | j + 4, hj => simp [colsV] at hj
        intro v' w2 hO2 hg _
        obtain ⟨g, cap', rfl, hgb, _⟩ := hO2.form (by omega)
        have t6 := s6.kept hg (fun e => by have := own _ e.symm; omega)
        have t4 := s4.kept hg (fun e => by have := own _ e.symm; omega)
        have bw2 := ((M1.out.2.2.1.alloc M1.out.2.2.1.size (.cells #[.int .u8 b0, .int .u8 b1, .int .u8 b2, .int .u8 b3] 27 (0, 0))).drew).grown hg (by simp; have := M1.out.2.2.1.size; omega) (fun j e => by have := own _ e; omega)
        refine ⟨⟨t6, t4⟩, ?_⟩
        go_simp
        refine tree_act rfl rfl ?_
        go_simp
        have hwv := M.out.2.2.2.2.1
        refine (rover_any v0 v1 v2 v3 b0 b1 b2 b3 _ hwv.1 hwv.2.1 hwv.2.2.1 hwv.2.2.2 hB.1 hB.2.1 hB.2.2.1 hB.2.2.2).mono ?_
        rintro e w3 ⟨rfl, b3'⟩
        have r6 := t6.below b3' t6.lt
        have r4 := t4.below b3' t4.lt
        have br := bw2.trans (b3'.mono bw2.size)
        have hO3 := ownsRow_below hO2 b3'
        have sz3 := b3'.size
        clear t6 t4 bw2 hO2 hg own sr s6 s4
        refine ⟨⟨r6, r4⟩, ?_⟩
        go_simp
        repeat (refine tree_pure (v := ?_) rfl rfl ?_ ?_; rotate_left; (focus (intro Y hY; go_simp; try with_reducible rfl)); go_simp; try go_bits)
        have d4 := r4.four
        have f4 := r4.free4
        have y4 := r4.put4 (.int .u8 (shareZ v0 b0 b3)) (.int .u8 (shareZ v1 b1 b3)) (.int .u8 (shareZ v2 b2 b3)) (.int .u8 ((b3 + shareZ v3 0 b3) % 256))
        have bY := below_put4 br (r := w1.heap.size) (by omega) (.int .u8 (shareZ v0 b0 b3)) (.int .u8 (shareZ v1 b1 b3)) (.int .u8 (shareZ v2 b2 b3)) (.int .u8 ((b3 + shareZ v3 0 b3) % 256))
        have hY : (w4 w3 w1.heap.size (.int .u8 (shareZ v0 b0 b3)) (.int .u8 (shareZ v1 b1 b3)) (.int .u8 (shareZ v2 b2 b3)) (.int .u8 ((b3 + shareZ v3 0 b3) % 256))).ownsRow X.heap.size 27 4 (.slice (some ⟨g, 0, none⟩) (k + 1) cap') (k + 1) (colsV (bs ++ [(b0, b1, b2, b3)])) := by
          have e : colsV (bs ++ [(b0, b1, b2, b3)]) = colsV bs ++ colsV [(b0, b1, b2, b3)] := by simp [colsV]
          rw [e]
          exact ownsRow_setCell_below (ownsRow_setCell_below (ownsRow_setCell_below (ownsRow_setCell_below hO3 (by simp; omega) _) (by simp; omega) _) (by simp; omega) _) (by simp; omega) _
        have sY : (w4 w3 w1.heap.size (.int .u8 (shareZ v0 b0 b3)) (.int .u8 (shareZ v1 b1 b3)) (.int .u8 (shareZ v2 b2 b3)) (.int .u8 ((b3 + shareZ v3 0 b3) % 256))).heap.size = w3.heap.size := by simp [World.setCell]
        refine tree_last rfl rfl ?_
        go_simp
        unfold w4 at y4 bY hY sY
        generalize hYY : World.setCell _ _ _ = Y at *
        clear hYY d4 f4 r6 r4 br hO3 j6 j4
        obtain ⟨BS, hBS⟩ : ∃ BS, bs ++ [(b0, b1, b2, b3)] = BS := ⟨_, rfl⟩
        have hlen : BS.length = k + 1 := by rw [← hBS]; simp [hbl]
        have hby : ∀ c ∈ BS, ByC c := by
          intro c hc
          rw [← hBS] at hc
          rcases List.mem_append.1 hc with hc | hc
          · exact M.out.2.2.1 c hc
          · obtain rfl := List.mem_singleton.1 hc; exact hB
        have hfold : BS.foldl overC (0, 0, 0, 0) = (shareZ v0 b0 b3, shareZ v1 b1 b3, shareZ v2 b2 b3, (b3 + shareZ v3 0 b3) % 256) := by
          rw [← hBS, List.foldl_append, M.out.2.2.2.1]
          rfl
        have hnw : ByC (shareZ v0 b0 b3, shareZ v1 b1 b3, shareZ v2 b2 b3, (b3 + shareZ v3 0 b3) % 256) := overC_by (u := (v0, v1, v2, v3)) (o := (b0, b1, b2, b3)) hwv hB
        rw [hBS] at hY
        obtain ⟨ad2, cap2, he2, hCR, _⟩ := cols_of_own (l := BS) (by rw [hlen]; unfold maxLen; omega) hby (hlen ▸ hY)
        rw [hlen] at he2
        cases he2
        have R := Lib.hid (And.intro hlen (And.intro hby (And.intro hfold (And.intro hnw (And.intro hY (And.intro y4 (And.intro bY (And.intro hCR (And.intro sY (And.intro sz3 hgb))))))))))
        have hq0 := M.out.1
        clear hlen hby hfold hnw hY y4 bY hCR sY sz3 hgb hBS hwv hO
        go_wp2_with (fail)
        refine (show Calls Try.prog 24 #[.slice (some ⟨g, 0, none⟩) (k + 1) cap'] Y (fun e w' => ∃ ad' cap', e = .returned (.slice ad' (k + 1) cap') ∧ ColRow w' ad' BS ∧ (ad' = none → BS = [] ∧ cap' = 0) ∧ Below Y.heap.size Y w') from R.out.1 ▸ clone_any (some ⟨g, 0, none⟩) cap' BS Y R.out.2.2.2.2.2.2.2.1 (fun e => by cases e) (by have := R.out.1; omega)).mono ?_
        rintro e w5 ⟨ad5, cap5, rfl, hC5, _, b5⟩
        have S5 := Lib.hid (show Has w5 w1.heap.size (.cells #[.int .u8 (shareZ v0 b0 b3), .int .u8 (shareZ v1 b1 b3), .int .u8 (shareZ v2 b2 b3), .int .u8 ((b3 + shareZ v3 0 b3) % 256)] 27 (0, 0)) ∧ w5.ownsRow X.heap.size 27 4 (.slice (some ⟨g, 0, none⟩) (k + 1) cap') (k + 1) (colsV BS) ∧ ColRow w5 (some ⟨g, 0, none⟩) BS ∧ ColRow w5 ad5 BS ∧ Below w.heap.size w w5 ∧ Y.heap.size ≤ w5.heap.size from
          ⟨R.out.2.2.2.2.2.1.below b5 R.out.2.2.2.2.2.1.lt, ownsRow_below R.out.2.2.2.2.1 b5, R.out.2.2.2.2.2.2.2.1.below b5, hC5, R.out.2.2.2.2.2.2.1.trans (b5.mono R.out.2.2.2.2.2.2.1.size), b5.size⟩)
        clear hC5 b5
        go_wp2_with (fail)
        have L4 : ∀ {w'}, Below w5.drew.heap.size w5.drew w' → w'.cell? ⟨w1.heap.size, 0, none⟩ = some (.int .u8 (shareZ v0 b0 b3)) ∧ w'.cell? ⟨w1.heap.size, 1, none⟩ = some (.int .u8 (shareZ v1 b1 b3)) ∧ w'.cell? ⟨w1.heap.size, 2, none⟩ = some (.int .u8 (shareZ v2 b2 b3)) ∧ w'.cell? ⟨w1.heap.size, 3, none⟩ = some (.int .u8 ((b3 + shareZ v3 0 b3) % 256)) := fun hB => (S5.out.1.drew.below hB S5.out.1.drew.lt).four
        have CL : ∀ {w'}, Below w5.drew.heap.size w5.drew w' → Calls Try.prog 23 #[.agg #[.int .u8 0, .int .u8 0, .int .u8 0, .int .u8 0], .slice (some ⟨g, 0, none⟩) (k + 1) cap'] w' (fun e w'' => e = .returned (.agg #[.int .u8 (shareZ v0 b0 b3), .int .u8 (shareZ v1 b1 b3), .int .u8 (shareZ v2 b2 b3), .int .u8 ((b3 + shareZ v3 0 b3) % 256)]) ∧ Below w'.heap.size w' w'') := fun {w'} hB =>
          (show Calls Try.prog 23 #[colV (0, 0, 0, 0), .slice (some ⟨g, 0, none⟩) (k + 1) cap'] w' (fun e w'' => e = .returned (colV (BS.foldl overC (0, 0, 0, 0))) ∧ Below w'.heap.size w' w'') from R.out.1 ▸ layers_any (0, 0, 0, 0) (some ⟨g, 0, none⟩) cap' BS w' (by unfold ByC By; decide) (S5.out.2.2.1.below (W' := w') ⟨hB.os, hB.tape, hB.output, hB.size, hB.block⟩)).mono fun e w'' ⟨h1, h2⟩ => ⟨by rw [h1, R.out.2.2.1], h2⟩
        have CE : ∀ {w'}, Below w5.drew.heap.size w5.drew w' → Calls Try.prog 26 #[.slice (some ⟨g, 0, none⟩) (k + 1) cap', .slice ad5 (k + 1) cap5] w' (fun e w'' => e = .returned (.bool true) ∧ Below w'.heap.size w' w'') := fun {w'} hB =>
          (show Calls Try.prog 26 #[.slice (some ⟨g, 0, none⟩) (k + 1) cap', .slice ad5 (k + 1) cap5] w' (fun e w'' => e = .returned (.bool (decide (BS = BS))) ∧ Below w'.heap.size w' w'') from R.out.1 ▸ equal_any (some ⟨g, 0, none⟩) ad5 cap' cap5 BS BS w' (S5.out.2.2.1.below (W' := w') ⟨hB.os, hB.tape, hB.output, hB.size, hB.block⟩) (S5.out.2.2.2.1.below (W' := w') ⟨hB.os, hB.tape, hB.output, hB.size, hB.block⟩)).mono fun e w'' ⟨h1, h2⟩ => ⟨by rw [h1, decide_eq_true rfl], h2⟩
        refine wp_region_fresh 10 [(10, false)]
          [(fun _ => .agg #[.int .u8 0, .int .u8 0, .int .u8 0, .int .u8 0], none),
           (fun _ => .slice (some ⟨g, 0, none⟩) (k + 1) cap', none),
           (fun _ => .agg #[.int .u8 (shareZ v0 b0 b3), .int .u8 (shareZ v1 b1 b3), .int .u8 (shareZ v2 b2 b3), .int .u8 ((b3 + shareZ v3 0 b3) % 256)], none),
           (fun _ => .agg #[.int .u8 (shareZ v0 b0 b3), .int .u8 (shareZ v1 b1 b3), .int .u8 (shareZ v2 b2 b3), .int .u8 ((b3 + shareZ v3 0 b3) % 256)], none),
           (fun _ => .bool false, none),
           (fun _ => .bool false, none),
           (fun _ => .slice (some ⟨g, 0, none⟩) (k + 1) cap', none),
           (fun _ => .slice ad5 (k + 1) cap5, none),
           (fun _ => .bool true, none),
           (fun _ => .bool false, none)] (fun _ _ => True) (by kernel_rfl) (by kernel_rfl) rfl ?_
        intro z13
        refine fresh_pure rfl rfl (fun w' hB_ => by go_simp) ?_
        go_simp
        refine fresh_pure rfl rfl (fun w' hB_ => by go_simp) ?_
        go_simp
        refine fresh_call rfl rfl (fun w' hB_ hA => by go_simp) (fun w' hB_ hA => CL hB_) ?_
        go_simp
        refine fresh_pure rfl rfl (fun w' hB_ => by have l4 := L4 hB_; go_simp) ?_
        go_simp
        refine fresh_pure rfl rfl (fun w' hB_ => by go_simp) ?_
        go_simp
        refine fresh_pure rfl rfl (fun w' hB_ => by go_simp) ?_
        go_simp
        refine fresh_pure rfl rfl (fun w' hB_ => by go_simp) ?_
        go_simp
        refine fresh_pure rfl rfl (fun w' hB_ => by go_simp) ?_
        go_simp
        refine fresh_call rfl rfl (fun w' hB_ hA => by go_simp) (fun w' hB_ hA => CE hB_) ?_
        go_simp
        refine fresh_pure rfl rfl (fun w' hB_ => by go_simp) ?_
        go_simp
        refine fresh_end fun V hB3 hA3 hD3 => ?_
        have F := Lib.hid (show V.ownsRow X.heap.size 27 4 (.slice (some ⟨g, 0, none⟩) (k + 1) cap') (k + 1) (colsV BS) ∧ Has V w1.heap.size (.cells #[.int .u8 (shareZ v0 b0 b3), .int .u8 (shareZ v1 b1 b3), .int .u8 (shareZ v2 b2 b3), .int .u8 ((b3 + shareZ v3 0 b3) % 256)] 27 (0, 0)) ∧ Below w.heap.size w V ∧ w5.heap.size ≤ V.heap.size from
          ⟨ownsRow_below S5.out.2.1.drew hB3, S5.out.1.drew.below hB3 S5.out.1.drew.lt, S5.out.2.2.2.2.1.drew.trans (hB3.mono S5.out.2.2.2.2.1.drew.size), hB3.size⟩)
        clear L4 CL CE hB3 hA3 hD3
        go_simp
        repeat (refine sched_pure (v := ?_) rfl rfl ?_ ?_; rotate_left; (focus (intro Y hY; go_simp; try with_reducible rfl)); go_simp; try go_bits)
        refine sched_end ?_
        go_wp2
        go_roundg (m - (k + 1))
        case measure => omega
        case rel => exact ⟨k + 1, BS, _, _, _, _, hlt, rfl, rfl, by omega, R.out.1, R.out.2.1, R.out.2.2.1, R.out.2.2.2.1, F.out.1, F.out.2.1, F.out.2.2.1, by have h1 := F.out.2.2.2; have h2 := S5.out.2.2.2.2.2; have h3 := F.out.1.lt g rfl; omega⟩
    · have T := Lib.hid hb
      clear hn hbl hbs hfo hwv hO j4 hb hXs
      go_wp2
      go_ret
      exact ⟨rfl, T.out⟩
end Go.Proofs.Ytnladfpckejogaa
