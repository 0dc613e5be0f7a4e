/- Walks: rows of points: are two the same; a copy; and the document's With. -/
import Derived.Test.YtedckelfdkfkoaaD
import Derived.Laws.AppendOwn
namespace Go.Proofs.Ytedckelfdkfkoaa
open Go.RowKit Go.Shelf
attribute [local go_sem] Oper.semAt_some
attribute [local go_sem 2000] run_col run_tile
attribute [local go_sem ↓] zero25 build25 build176z build176 load25 store25
attribute [local go_sem] rowAt_alloc rowFree_alloc rowAt_drew rowFree_drew zeroA_size zc176 zeroA_ones blkOf_ptr aggOf_agg

/-- a row of points, cell by cell -/
def ptsV (l : List (Int × Int)) : List Value := l.flatMap fun c => [.int .i64 c.1, .int .i64 c.2]
theorem ptsV_length (l : List (Int × Int)) : (ptsV l).length = l.length * 2 := by
  induction l with
  | nil => rfl
  | cons c l ih => simp only [ptsV, List.flatMap_cons, List.length_append, List.length_cons, List.length_nil] at *; omega
theorem ptsV_at : ∀ (l : List (Int × Int)) (i : Nat) (c : Int × Int), l[i]? = some c → (ptsV l)[i * 2]? = some (.int .i64 c.1) ∧ (ptsV l)[i * 2 + 1]? = some (.int .i64 c.2)
  | [], i, c, h => by simp at h
  | d :: l, 0, c, h => by
    simp at h; subst h
    exact ⟨rfl, rfl⟩
  | d :: l, i + 1, c, h => by
    have ih := ptsV_at l i c (by simpa using h)
    have e : ∀ k, (ptsV (d :: l))[(i + 1) * 2 + k]? = (ptsV l)[i * 2 + k]? := by
      intro k
      show ([_, _] ++ ptsV l)[(i + 1) * 2 + k]? = _
      rw [List.getElem?_append_right (by simp; omega)]
      congr 1
      simp; omega
    exact ⟨(e 0).trans ih.1, (e 1).trans ih.2⟩
theorem pts_cells {W : World} {a : Addr} {l : List (Int × Int)} (h : PtRow W (some a) l) : ∀ j u, (ptsV l)[j]? = some u → W.cell? (a.add j) = some u := by
  intro j u hj
  have hlt : j < l.length * 2 := by rw [← ptsV_length]; exact (List.getElem?_eq_some_iff.1 hj).1
  obtain ⟨c, hc⟩ : ∃ c, l[j / 2]? = some c := ⟨_, List.getElem?_eq_getElem (by omega)⟩
  obtain ⟨a', e, q0, q1⟩ := h.at_ _ c hc
  cases e
  obtain ⟨v0, v1⟩ := ptsV_at l _ c hc
  have hm : j % 2 = 0 ∨ j % 2 = 1 := by omega
  have hd : j = j / 2 * 2 + j % 2 := by omega
  rcases hm with m | m <;> rw [m] at hd
  · rw [hd, Nat.add_zero] at hj ⊢
    rw [v0] at hj; rw [← hj]; exact q0
  · rw [hd] at hj ⊢
    rw [v1] at hj; rw [← hj, add_off _ _ _ (by omega)]; exact q1
theorem pts_of_own {W : World} {base E : Nat} {v : Value} {l : List (Int × Int)} (hl : l.length ≤ maxLen) (hb : ∀ c ∈ l, WdP c) (h : W.ownsRow base E 2 v l.length (ptsV l)) : ∃ ad cap, v = .slice ad l.length cap ∧ PtRow W ad l ∧ (ad = none → l = [] ∧ cap = 0) := by
  rcases h.2 with ⟨rfl, h0⟩ | ⟨g, cap, cur, rfl, _, hg, _, _, _, ht⟩
  · have : l = [] := List.length_eq_zero_iff.1 h0
    subst this
    exact ⟨none, 0, rfl, ⟨hl, fun i c hi => by simp at hi, hb⟩, fun _ => ⟨rfl, rfl⟩⟩
  · refine ⟨some ⟨g, 0, none⟩, cap, rfl, ⟨hl, fun i c hi => ⟨_, rfl, ?_⟩, hb⟩, fun e => by cases e⟩
    obtain ⟨v0, v1⟩ := ptsV_at l i c hi
    have hc := h.cells (g := g) rfl
    refine ⟨hc _ _ v0, ?_⟩
    rw [← add_off _ _ _ (by omega)]; exact hc _ _ v1
theorem ptsV_one (l : List (Int × Int)) : ∀ u ∈ ptsV l, u.oneCell' = true := by
  intro u hu
  obtain ⟨c, _, hc⟩ := List.mem_flatMap.1 hu
  simp only [List.mem_cons, List.not_mem_nil, or_false] at hc
  rcases hc with rfl | rfl <;> rfl
theorem PtRow.take {W : World} {ad : Option Addr} {l : List (Int × Int)} (h : PtRow W ad l) (q : Nat) : PtRow W ad (l.take q) := by
  refine ⟨by have := h.len; rw [List.length_take]; omega, fun i c hi => ?_, fun c hc => h.by_ c (List.mem_of_mem_take hc)⟩
  rw [List.getElem?_take] at hi
  split at hi
  · exact h.at_ i c hi
  · cases hi

set_option maxRecDepth 100000 in
set_option maxHeartbeats 1000000 in
theorem clonep_any (ad : Option Addr) (cap : Nat) (l : List (Int × Int)) (w : World) (h : PtRow w ad l) (hn : ad = none → cap = 0) (hl : l.length ≤ 1000) :
    Calls Try.prog 42 #[.slice ad l.length cap] w fun e w' => ∃ ad' cap', e = .returned (.slice ad' l.length cap') ∧ PtRow w' ad' l ∧ (ad' = none → l = [] ∧ cap' = 0) ∧ Below w.heap.size w w' := by
  cases ad with
  | none =>
    have e : l = [] := by
      cases l with
      | nil => rfl
      | cons c l => obtain ⟨_, e, _⟩ := h.at_ 0 c rfl; cases e
    subst e
    have hc := hn rfl
    subst hc
    clear hn
    have e1 : ∀ w, (binOp BinOp.eql 45 (.slice none 0 0) (.slice none 0 0)).run Try.prog w = .ok (.bool true) w := fun _ => by kernel_rfl
    go_enter Try.func42, Try.ntmps42
    go_wp2
    go_ret
    exact ⟨none, 0, rfl, h, fun _ => by simp, Below.refl _ _⟩
  | some a =>
    clear hn
    generalize hm : l.length = m at *
    have A := Lib.hid (And.intro hm h)
    clear hm h
    have e1 : ∀ w, (binOp BinOp.eql 45 (.slice (some a) m cap) (.slice none 0 0)).run Try.prog w = .ok (.bool false) w := fun _ => by kernel_rfl
    go_enter Try.func42, Try.ntmps42
    have hA := A.out
    have hO : (w.alloc (.cells #[] 43 (0, 0))).ownsRow w.heap.size 43 2 (.slice (some ⟨w.heap.size, 0, none⟩) 0 0) 0 [] := by
      refine ⟨by simp, .inr ⟨w.heap.size, 0, #[], rfl, Nat.le_refl _, Has.new w _, Nat.le_refl _, by unfold maxLen; omega, by simp, by simp⟩⟩
    have hC := pts_cells (hA.2.below ((Below.refl _ _).alloc (Nat.le_refl _) (.cells #[] 43 (0, 0))))
    go_wp2_with (at_builtin; refine wpList_append_own _ rfl _ _ 45 rfl w.heap.size 43 _ (.agg #[.int .i64 0, .int .i64 0]) 2 16 (by kernel_rfl) rfl rfl rfl rfl rfl (by omega) _ 0 [] rfl hO a m cap (ptsV l) rfl (by rw [ptsV_length, hA.1]) hC (ptsV_one l) (by unfold maxLen; omega) (by omega) (by simp) ?_; intro v' w1 hown hg _)
    rw [Nat.zero_add, List.nil_append, ← hA.1] at hown
    obtain ⟨ad', cap', rfl, hc, hn⟩ := pts_of_own hA.2.len hA.2.by_ hown
    have hb : Below w.heap.size w w1 := ((Below.refl _ _).alloc (Nat.le_refl _) (.cells #[] 43 (0, 0))).grown hg (by simp) (fun k hk => by cases hk; simp)
    go_ret
    exact ⟨ad', cap', by rw [hA.1]; rfl, hc, hn, hb⟩

/-- are two points the same? -/
def ptB (a b c d : Int) : Bool := decide (a = c ∧ b = d)
theorem ptB_self (a b : Int) : ptB a b a b = true := by simp [ptB]
theorem ptB_true {a b c d : Int} (h : ptB a b c d = true) : a = c ∧ b = d := by simpa [ptB] using h
theorem ptB_eq (p q : Int × Int) : ptB p.1 p.2 q.1 q.2 = decide (p = q) := by
  obtain ⟨a, b⟩ := p
  obtain ⟨c, d⟩ := q
  simp [ptB]
theorem run_pt (a b c d : Int) (w : World) : (Op.equalIn 10000 43 (.agg #[.int .i64 a, .int .i64 b]) (.agg #[.int .i64 c, .int .i64 d])).run Try.prog w = .ok (ptB a b c d) w := by
  by_cases h1 : a = c
  · by_cases h2 : b = d <;> simp [go_sem, ptB, h1, h2]
  · simp [go_sem, ptB, h1]
attribute [local go_sem 2000] run_pt
attribute [local go_sem] ptB_self

set_option maxRecDepth 100000 in
set_option maxHeartbeats 1000000 in
theorem equalp_any (a1 a2 : Option Addr) (x1 x2 : Nat) (l1 l2 : List (Int × Int)) (w : World) (h1 : PtRow w a1 l1) (h2 : PtRow w a2 l2) :
    Calls Try.prog 48 #[.slice a1 l1.length x1, .slice a2 l2.length x2] w fun e w' => e = .returned (.bool (decide (l1 = l2))) ∧ Below w.heap.size w w' := by
  have n1 := h1.len
  have n2 := h2.len
  unfold maxLen at n1 n2
  generalize hm1 : l1.length = m1 at *
  generalize hm2 : l2.length = m2 at *
  have A := Lib.hid (And.intro hm1 (And.intro hm2 (And.intro h1 h2)))
  clear hm1 hm2 h1 h2
  by_cases hl : m1 = m2
  · subst hl
    go_enter Try.func48, Try.ntmps48
    go_wp2
    go_loopg [13] m1 (fun n i wr => ∃ k : Nat, k ≤ m1 ∧ n = m1 - k ∧ i = .int .i64 k ∧ (∀ j : Nat, j < k → l1[j]? = l2[j]?) ∧ Below w.heap.size w wr)
    case atStart => exact ⟨0, by omega, by omega, rfl, fun j hj => by omega, Below.refl _ _⟩
    case round =>
      obtain ⟨k, hk, hn, rfl, he, hb⟩ := hrel
      by_cases hlt : k < m1
      · obtain ⟨hm1, hm2, h1, h2⟩ := A.out
        obtain ⟨c, hc⟩ : ∃ c, l1[k]? = some c := ⟨_, List.getElem?_eq_getElem (by omega)⟩
        obtain ⟨d, hd⟩ : ∃ c, l2[k]? = some c := ⟨_, List.getElem?_eq_getElem (by omega)⟩
        obtain ⟨p1, rfl, q1⟩ := (h1.below hb).at_ k c hc
        obtain ⟨p2, rfl, q2⟩ := (h2.below hb).at_ k d hd
        obtain ⟨c0, c1⟩ := c
        obtain ⟨d0, d1⟩ := d
        unfold PtAt at q1 q2
        simp only [] at q1 q2
        have B := Lib.hid (And.intro hn (And.intro he (And.intro hc hd)))
        clear hn he hc hd hm1 hm2 h1 h2
        have lt4 : k * 2 + 1 < (m1 : Nat) * 2 := by omega
        cases hcol : ptB c0 c1 d0 d1 with
        | true =>
          go_wp2
          refine wp_region_sched [(0, false), (1, false), (2, false), (3, false), (4, false), (5, false), (6, false), (7, false), (8, false)] (fun Y => (PtAt Y (p1.add (k * 2)) (c0, c1)) ∧ PtAt Y (p2.add (k * 2)) (d0, d1)) (by kernel_rfl) (by kernel_rfl) ⟨q1, q2⟩ ?_
          repeat (refine sched_pure (v := ?_) rfl rfl ?_ ?_; rotate_left; (focus (intro Y hY; unfold PtAt at hY; go_simp; try with_reducible rfl)); go_simp; try go_bits)
          refine sched_end ?_
          go_wp2
          go_roundg (m1 - (k + 1))
          case measure => have := B.out.1; omega
          case rel =>
            refine ⟨k + 1, hlt, rfl, rfl, fun j hj => ?_, hb.drew⟩
            rcases Nat.lt_or_ge j k with h | h
            · exact B.out.2.1 j h
            · obtain rfl : j = k := by omega
              obtain ⟨rfl, rfl⟩ := ptB_true hcol
              rw [B.out.2.2.1, B.out.2.2.2]
        | false =>
          go_wp2
          refine wp_region_sched [(0, false), (1, false), (2, false), (3, false), (4, false), (5, false), (6, false), (7, false), (8, false)] (fun Y => (PtAt Y (p1.add (k * 2)) (c0, c1)) ∧ PtAt Y (p2.add (k * 2)) (d0, d1)) (by kernel_rfl) (by kernel_rfl) ⟨q1, q2⟩ ?_
          repeat (refine sched_pure (v := ?_) rfl rfl ?_ ?_; rotate_left; (focus (intro Y hY; unfold PtAt at hY; go_simp; try with_reducible rfl)); go_simp; try go_bits)
          refine sched_end ?_
          go_wp2
          go_ret
          refine ⟨congrArg (fun b => Ending.returned (Value.bool b)) (Eq.symm (decide_eq_false fun e => ?_)), hb.drew⟩
          subst e
          have hh := B.out.2.2.1.symm.trans B.out.2.2.2
          simp only [Option.some.injEq, Prod.mk.injEq] at hh
          obtain ⟨rfl, rfl⟩ := hh
          rw [ptB_self] at hcol
          cases hcol
      · have hk : k = m1 := by omega
        have B := Lib.hid he
        clear he
        go_wp2
        go_ret
        refine ⟨congrArg (fun b => Ending.returned (Value.bool b)) (Eq.symm (decide_eq_true ?_)), hb⟩
        apply List.ext_getElem?
        intro j
        rcases Nat.lt_or_ge j m1 with h | h
        · exact B.out j (by omega)
        · rw [List.getElem?_eq_none (by rw [A.out.1]; exact h), List.getElem?_eq_none (by rw [A.out.2.1]; exact h)]
  · have Hl := Lib.hid hl
    have hb : ((m1 : Int) != m2) = true := by simp; omega
    clear hl
    go_enter Try.func48, Try.ntmps48
    go_wp2
    go_ret
    refine ⟨congrArg (fun b => Ending.returned (Value.bool b)) (Eq.symm (decide_eq_false fun e => Hl.out (by rw [← A.out.1, ← A.out.2.1, e]))), Below.refl _ _⟩

/-- what the document's With comes to -/
def rwithR : Option (List Col) → Value
  | some T => .tuple #[.agg (tileA T), .bool true]
  | none => .tuple #[.agg zeroA, .bool false]

set_option maxRecDepth 100000 in
set_option maxHeartbeats 1000000 in
theorem rwith_any (T : List Col) (c : Col) (ad : Option Addr) (cap : Nat) (l : List (Int × Int)) (w : World) (hT : T.length = 64) (hl : PtRow w ad l) :
    Calls Try.prog 45 #[.agg (tileA T), colV c, .slice ad l.length cap] w fun e w' => e = .returned (rwithR (withT c T l)) ∧ Below w.heap.size w w' := by
  have n1 := hl.len
  unfold maxLen at n1
  generalize hm1 : l.length = m1 at *
  obtain ⟨R, hR⟩ : ∃ R, withT c T l = R := ⟨_, rfl⟩
  rw [hR]
  have A0 := Lib.hid (And.intro hm1 (And.intro hl (And.intro hR hT)))
  obtain ⟨c0, c1, c2, c3⟩ := c
  generalize hA : tileA T = A at *
  have HA := Lib.hid hA
  clear hm1 hl hR hT hA
  go_enter Try.func45, Try.ntmps45
  go_wp2
  generalize hX : World.alloc _ _ = X
  have sz : X.heap.size = w.heap.size + 3 := by rw [← hX]; simp
  have x0 : Has X w.heap.size (.cells A 25 (0, 0)) := by rw [← hX]; exact ((Has.new' (by simp)).alloc _).alloc _
  have x1 : Has X (w.heap.size + 1) (.cells #[.int .u8 c0, .int .u8 c1, .int .u8 c2, .int .u8 c3] 23 (0, 0)) := by rw [← hX]; exact ((Has.new' (by simp)).alloc _)
  have x2 : Has X (w.heap.size + 1 + 1) (.cells zeroA 25 (0, 0)) := by rw [← hX]; exact (Has.new' (by simp))
  have b0 : Below w.heap.size w X := by rw [← hX]; repeat (first | exact Below.refl _ _ | refine Below.alloc ?_ (by simp <;> omega) _)
  rw [← HA.out] at x0
  clear hX
  go_loopg [12] m1 (fun n i wr => ∃ (k : Nat) (T' : List Col), k ≤ m1 ∧ n = m1 - k ∧ i = .int .i64 k ∧ T'.length = 64 ∧ withT (c0, c1, c2, c3) T' (l.drop k) = R ∧ Grew [w.heap.size] X wr ∧ Has wr w.heap.size (.cells (tileA T') 25 (0, 0)))
  case atStart => exact ⟨0, T, by omega, by omega, rfl, A0.out.2.2.2, A0.out.2.2.1, Grew.refl _ _, x0⟩
  case round =>
    obtain ⟨k, T', hk, hn, rfl, hT', hR, hG, hF⟩ := hrel
    have bw : Below w.heap.size w wr := b0.trans (hG.below (by omega) (by simp))
    have y1 := x1.grew hG (by simp <;> omega)
    have y2 := x2.grew hG (by simp <;> omega)
    by_cases hlt : k < m1
    · obtain ⟨hm1, hl, _, _⟩ := A0.out
      obtain ⟨p, hp⟩ : ∃ p, l[k]? = some p := ⟨_, List.getElem?_eq_getElem (by omega)⟩
      obtain ⟨a, rfl, q⟩ := (hl.below bw).at_ k p hp
      have qa := q.1
      have qb := q.2
      rw [List.drop_eq_getElem_cons (by omega), show l[k]'(by omega) = p by rw [List.getElem?_eq_getElem (by omega)] at hp; exact Option.some.inj hp] at hR
      unfold withT at hR
      obtain ⟨px, py⟩ := p
      have z1 := (y1.alloc (.cells #[.int .i64 px, .int .i64 py] 43)).four
      have z0' := (Has.new wr (.cells #[.int .i64 px, .int .i64 py] 43 (0, 0)))
      have za := z0'.cell 0
      have zb := z0'.cell 1
      have wl := y2.lt
      have wl1 := y1.lt
      have wl0 := hF.lt
      have B := Lib.hid (And.intro hm1 (And.intro hl (And.intro hn (And.intro hT' (And.intro hG (And.intro hF (And.intro y2 (And.intro sz (And.intro b0 (And.intro hR y1))))))))))
      clear hm1 hl hn hT' hG hF y2 y1 q hp x1 x2 x0 sz b0 bw hR z0'
      cases hB : isB px py with
      | true =>
        obtain ⟨i, j, hi, hj, rfl, rfl⟩ := isB_true hB
        have HB := Lib.hid hB
        have ff := B.out.2.2.2.2.2.1.pixf (k := 8 * j + i) (by rw [B.out.2.2.2.1]; omega)
        generalize atT T' (8 * j + i) = d at ff
        unfold PixAt at ff
        clear hB
        go_wp2_with (go_at_call 43; refine (ris_any _ _ _).mono ?_; rintro e w' ⟨he, rfl⟩; rw [HB.out] at he; subst he)
        obtain ⟨hm1, hl, hn, hT', hG, hF, y2, sz, b0, hR, y1⟩ := B.out
        go_roundg (m1 - (k + 1))
        case measure => omega
        case rel =>
          rw [HB.out, if_pos rfl] at hR
          have hp : putT T' i j (c0, c1, c2, c3) = T'.set (8 * j + i) (c0, c1, c2, c3) := by unfold putT; rw [HB.out, if_pos rfl]; congr 1; omega
          rw [hp] at hR
          exact ⟨k + 1, _, hlt, rfl, by go_num, by rw [List.length_set, hT'], hR, (grew_putCol hG (.inl (by simp)) _ _ _ _).alloc _, (hF.putCol (8 * j + i) (by omega) (c0, c1, c2, c3)).alloc _⟩
      | false =>
        have HB := Lib.hid hB
        clear hB
        have e1 := (B.out.2.2.2.2.2.2.1.alloc (.cells #[.int .i64 px, .int .i64 py] 43)).row
        have e2 := (B.out.2.2.2.2.2.2.1.alloc (.cells #[.int .i64 px, .int .i64 py] 43)).rowFree
        go_wp2_with (go_at_call 43; refine (ris_any _ _ _).mono ?_; rintro e w' ⟨he, rfl⟩; rw [HB.out] at he; subst he)
        obtain ⟨hm1, hl, hn, hT', hG, hF, y2, sz, b0, hR, y1⟩ := B.out
        rw [HB.out] at hR
        subst hR
        have bw : Below w.heap.size w wr := b0.trans (hG.below (by omega) (by simp))
        refine bodyPost_ret (v := rwithR none) (res25i Try.results45 _ _ (w.heap.size + 1 + 1) 25 zeroA (0, 0) _ rfl rfl ((y2.alloc _).setRow zeroA) zeroA_size) rfl ⟨rfl, below_setRow (bw.alloc bw.size _) (by omega) _⟩
    · obtain rfl : k = m1 := by omega
      have hs' : (tileA T').size = 256 := by rw [tileA_size, hT']
      have ho' := onesB_tile T'
      rw [List.drop_eq_nil_of_le (by rw [A0.out.1]; exact Nat.le_refl _)] at hR
      have hR' : some T' = R := hR
      subst hR'
      have e1 := hF.row
      have e2 := y2.row
      have e3 := y2.rowFree
      have H2 := Lib.hid (And.intro y2 (And.intro hF bw))
      clear hn hT' hR hG hF y1 y2 x1 x2 x0 b0 bw
      have HT := Lib.hid (rfl : tileA T' = tileA T')
      generalize hA' : tileA T' = A' at *
      have HA' := Lib.hid hA'
      clear hA' HT
      go_wp2
      refine bodyPost_ret (v := .tuple #[.agg A', .bool true]) (res25i Try.results45 _ _ (w.heap.size + 1 + 1) 25 A' (0, 0) _ rfl rfl (H2.out.1.setRow A') hs') rfl ⟨by rw [← HA'.out]; rfl, below_setRow H2.out.2.2 (by omega) _⟩
theorem ptRow_1 {W : World} {n : Nat} {x y : Int} (h : Has W n (.cells #[.int .i64 x, .int .i64 y] 43 (0, 0))) (hx : WdP (x, y)) : PtRow W (some ⟨n, 0, none⟩) [(x, y)] := by
  refine ⟨by simp [maxLen], fun i c hi => ?_, fun c hc => ?_⟩
  · match i, hi with
    | 0, hi => cases hi; exact ⟨_, rfl, h.cell 0, h.cell 1⟩
    | i + 1, hi => simp at hi
  · simp at hc; subst hc; exact hx
theorem withR_1 {T : List Col} {c : Col} {a b : Nat} (ha : a < 8) (hb : b < 8) : withR (withT c T [((a : Int), (b : Int))]) = .tuple #[.agg (tileA (T.set (b * 8 + a) c)), .int .i64 0] := by
  unfold withT
  rw [if_pos (isB_nat ha hb)]
  unfold withT withR putT
  simp only [isB_nat ha hb, if_true]
  rw [show ((b : Int) * 8 + (a : Int)).toNat = b * 8 + a by omega]
end Go.Proofs.Ytedckelfdkfkoaa
