/- Walks: a canvas, and dots, in memory of their own. -/
import Derived.Test.YtedckelfdkfkoaaCg
import Derived.Test.YtedckelfdkfkoaaMi
import Derived.Laws.AppendOwn
namespace Go.Proofs.Ytedckelfdkfkoaa
open Go.RowKit Go.Shelf
attribute [local go_sem] Oper.semAt_some
attribute [local go_sem 2000] run_col run_tile
attribute [local go_sem ↓] Go.wp_at_zero Go.wp_at_succ
attribute [local go_sem ↓] zero25 build25 build176z build176 load25 store25
attribute [local go_sem] World.setRow_alloc_new
attribute [local go_sem] rowAt_alloc rowFree_alloc rowAt_drew rowFree_drew zeroA_size zc176 zeroA_ones blkOf_ptr aggOf_agg

theorem info25t : ∃ i, Try.prog.info? 25 = some i ∧ i.zero = some (.agg zeroA) ∧ i.size = 256 ∧ i.bytes = 256 := by
  have h : (Try.prog.info? 25).map (fun i => (i.zero, i.size, i.bytes)) = some (some (.agg zeroA), 256, 256) := by kernel_rfl
  exact info_parts h
theorem zeroA_cells : (Value.agg zeroA).cells.size = 256 := by simp [Value.cells, zeroA_size]

set_option maxRecDepth 100000 in
set_option maxHeartbeats 1000000 in
theorem clonet_any (ad : Option Addr) (cap : Nat) (l : List (List Col)) (w : World) (h : TilRow w ad l) (hn : ad = none → cap = 0) (hl : l.length ≤ 1000) :
    Calls Try.prog 93 #[.slice ad l.length cap] w fun e w' => ∃ ad' cap', e = .returned (.slice ad' l.length cap') ∧ TilRow w' ad' l ∧ (ad' = none → l = [] ∧ cap' = 0) ∧ (∀ a, ad' = some a → ∃ g, a = ⟨g, 0, none⟩ ∧ w.heap.size ≤ g) ∧ Below w.heap.size w w' := by
  cases ad with
  | none =>
    have e : l = [] := by
      cases l with
      | nil => rfl
      | cons c l => obtain ⟨_, e, _⟩ := h.at_ 0 c rfl; cases e
    subst e
    have hc := hn rfl
    subst hc
    clear hn
    have e1 : ∀ w, (binOp BinOp.eql 61 (.slice none 0 0) (.slice none 0 0)).run Try.prog w = .ok (.bool true) w := fun _ => by kernel_rfl
    go_enter Try.func93, Try.ntmps93
    go_wp2
    go_ret
    exact ⟨none, 0, rfl, h, fun _ => by simp, fun a e => (by cases e), Below.refl _ _⟩
  | some a =>
    clear hn
    obtain ⟨i0, hi, hz0, hz1, hz2⟩ := info25t
    generalize hm : l.length = m at *
    have A := Lib.hid (And.intro hm h)
    clear hm h
    have e1 : ∀ w, (binOp BinOp.eql 61 (.slice (some a) m cap) (.slice none 0 0)).run Try.prog w = .ok (.bool false) w := fun _ => by kernel_rfl
    go_enter Try.func93, Try.ntmps93
    have hA := A.out
    have hO : (w.alloc (.cells #[] 25 (0, 0))).ownsRow w.heap.size 25 256 (.slice (some ⟨w.heap.size, 0, none⟩) 0 0) 0 [] := by
      refine ⟨by simp, .inr ⟨w.heap.size, 0, #[], rfl, Nat.le_refl _, Has.new w _, Nat.le_refl _, by unfold maxLen; omega, by simp, by simp⟩⟩
    have hC := til_cells (hA.2.since ((Since.refl w).alloc (.cells #[] 25 (0, 0))))
    have hZ := zeroA_cells
    have H0 := Lib.hid (And.intro hA (And.intro hO (And.intro hC hZ)))
    clear hA hO hC hZ
    go_wp2_with (at_builtin; refine wpList_append_own _ rfl _ _ 61 rfl w.heap.size 25 i0 (.agg zeroA) 256 256 (by kernel_rfl) hi hz0 hz1 hz2 H0.out.2.2.2 (by omega) _ 0 [] rfl H0.out.2.1 a m cap (tilesV l) rfl (by rw [tilesV_length H0.out.1.2.l64, H0.out.1.1]) H0.out.2.2.1 (tilesV_one l) (by unfold maxLen; omega) (by omega) (by simp) ?_; intro v' w1 hown hg _)
    have hA := H0.out.1
    rw [Nat.zero_add, List.nil_append, ← hA.1] at hown
    obtain ⟨ad', cap', rfl, hc, hn, hfr, _⟩ := til_of_own hA.2.len hA.2.l64 hA.2.by_ hown
    have hb : Below w.heap.size w w1 := ((Below.refl _ _).alloc (Nat.le_refl _) (.cells #[] 25 (0, 0))).grown hg (by simp) (fun k hk => by cases hk; simp)
    go_ret
    exact ⟨ad', cap', by rw [hA.1]; rfl, hc, hn, hfr, hb⟩

/-- own: what canvas comes out -/
def Own (x y : Int) (l : List (List Col)) (w : World) (e : Ending) (w' : World) : Prop := ∃ ad cap, e = .returned (.agg #[.int .i64 x, .int .i64 y, .slice ad (l.take 17).length cap]) ∧ TilRow w' ad (l.take 17) ∧ (ad = none → l.take 17 = [] ∧ cap = 0) ∧ (∀ a, ad = some a → ∃ g, a = ⟨g, 0, none⟩ ∧ w.heap.size ≤ g) ∧ Since w w'
set_option maxRecDepth 100000 in
set_option maxHeartbeats 1000000 in
theorem own_any (x y : Int) (ad : Option Addr) (cap : Nat) (l : List (List Col)) (w : World) (h : TilRow w ad l) (hn : ad = none → cap = 0) (hc : l.length ≤ cap) (_hcm : cap ≤ maxLen) :
    Calls Try.prog 51 #[.agg #[.int .i64 x, .int .i64 y, .slice ad l.length cap]] w (Own x y l w) := by
  have n1 := h.len
  unfold maxLen at n1
  obtain ⟨q, hq⟩ : ∃ q, min l.length 17 = q := ⟨_, rfl⟩
  have lt : (l.take 17) = l.take q := by rw [← hq]; rcases Nat.le_total l.length 17 with h | h
                                         · rw [Nat.min_eq_left h, List.take_of_length_le (by omega), List.take_of_length_le (by omega)]
                                         · rw [Nat.min_eq_right h]
  have lq : (l.take q).length = q := by rw [List.length_take]; omega
  have q1 : min (l.length : Int) 17 = (q : Int) := by omega
  have q2 : q ≤ l.length := by omega
  have q3 : q ≤ 17 := by omega
  have q4 : (q : Int) ≤ (cap : Int) := by omega
  have q5 : (0 : Int) ≤ (q : Int) := by omega
  generalize hm : l.length = m at *
  have A := Lib.hid (And.intro hm (And.intro h (And.intro hn (And.intro lt (And.intro lq hq)))))
  clear hm h hn lt lq hq hc
  go_enter Try.func51, Try.ntmps51
  go_wp2_with ((with_reducible refine wpList_min rfl (.tmp 7) (.const (.int .i64 17)) rfl m 17 ?_ ?_ ?_); (exact rfl); (exact rfl))
  have s0 : Since w ((w.alloc (.cells #[.int .i64 x, .int .i64 y, .slice ad m cap] 63)).alloc (.cells #[.int .i64 0, .int .i64 0, .slice none 0 0] 63)) := ((Since.refl w).alloc _).alloc _
  have hcl := clonet_any ad cap (l.take q) _ ((A.out.2.1.since s0).upto q) A.out.2.2.1 (by rw [A.out.2.2.2.2.1]; omega)
  rw [A.out.2.2.2.2.1] at hcl
  refine hcl.mono ?_
  rintro e w2 ⟨a2, cap2, rfl, r2, hn2, hfr, b2⟩
  have s2 : Since w w2 := s0.step b2
  have y0 : Has w2 w.heap.size (.cells #[.int .i64 x, .int .i64 y, .slice ad m cap] 63 (0, 0)) := ((Has.new _ _).alloc _).below b2 (by simp; omega)
  have y1 : Has w2 (w.heap.size + 1) (.cells #[.int .i64 0, .int .i64 0, .slice none 0 0] 63 (0, 0)) := (Has.new' (by simp)).below b2 (by simp)
  have H := Lib.hid (And.intro r2 (And.intro hn2 (And.intro s2 hfr)))
  have c0 := y0.three
  have f0 := y0.free 2
  have c1 := y1.three
  have f1 := y1.free 0
  have f11 := y1.free 1
  have f12 := y1.free 2
  have Y := Lib.hid (And.intro y0 y1)
  clear hcl r2 hn2 s2 s0 b2 y0 y1 hfr
  go_wp2
  generalize hW : (((w2.setCell _ _).setCell _ _).setCell _ _).setCell _ _ = W
  have hW2 : Grew [w.heap.size, w.heap.size + 1] w2 W := by rw [← hW]; exact ((((Grew.refl _ w2).setCell _ (.inl (by simp))).setCell _ (.inl (by simp))).setCell _ (.inl (by simp))).setCell _ (.inl (by simp))
  have hO : Has W (w.heap.size + 1) (.cells #[.int .i64 x, .int .i64 y, .slice a2 q cap2] 63 (0, 0)) := by
    rw [← hW]
    exact (Y.out.2.other _ (by simp)).put3 _ _ _
  clear hW
  have l2 : w.heap.size + 1 < w2.heap.size := Y.out.2.lt
  refine bodyPost_ret (v := .agg #[.int .i64 x, .int .i64 y, .slice a2 q cap2]) (res63 (fn := Try.f51) (p := 2) Try.results51 _ _ (w.heap.size + 1) 63 _ _ _ (0, 0) rfl hO) rfl ⟨a2, cap2, ?_, ?_, ?_, ?_, ?_⟩
  · rw [A.out.2.2.2.1, A.out.2.2.2.2.1]
  · rw [A.out.2.2.2.1]
    refine H.out.1.grew hW2 fun a e => ?_
    obtain ⟨g, rfl, hg⟩ := H.out.2.2.2 a e
    rw [World.size_alloc, World.size_alloc] at hg
    simp only [List.mem_cons, List.not_mem_nil, or_false]
    omega
  · rw [A.out.2.2.2.1]; exact H.out.2.1
  · intro a e
    obtain ⟨g, rfl, hg⟩ := H.out.2.2.2 a e
    rw [World.size_alloc, World.size_alloc] at hg
    exact ⟨g, rfl, by omega⟩
  · exact H.out.2.2.1.grew hW2 (by simp)

/-! ### Dots -/
abbrev dotV (d : Dot) : List Value := [.int .i64 d.1, .int .i64 d.2.1, .int .u8 d.2.2.1, .int .u8 d.2.2.2.1, .int .u8 d.2.2.2.2.1, .int .u8 d.2.2.2.2.2]
def dotsV (l : List Dot) : List Value := l.flatMap dotV
theorem dotsV_length (l : List Dot) : (dotsV l).length = l.length * 6 := by
  induction l with
  | nil => rfl
  | cons c l ih => simp only [dotsV, List.flatMap_cons, List.length_append, List.length_cons, List.length_nil] at *; omega
theorem dotsV_snoc (l : List Dot) (d : Dot) : dotsV (l ++ [d]) = dotsV l ++ dotV d := by simp [dotsV]
theorem dotsV_at : ∀ (l : List Dot) (i j : Nat) (d : Dot) (v : Value), l[i]? = some d → (dotV d)[j]? = some v → (dotsV l)[i * 6 + j]? = some v
  | [], i, j, c, v, h, _ => by simp at h
  | e :: l, 0, j, c, v, h, hj => by
    simp at h; subst h
    rw [Nat.zero_mul, Nat.zero_add]
    exact (List.getElem?_append_left (List.getElem?_eq_some_iff.1 hj).1).trans hj
  | e :: l, i + 1, j, c, v, h, hj => by
    have ih := dotsV_at l i j c v (by simpa using h) hj
    show (dotV e ++ dotsV l)[(i + 1) * 6 + j]? = _
    rw [List.getElem?_append_right (by simp; omega), ← ih]
    congr 1
    simp; omega
theorem dotsV_one (l : List Dot) : ∀ u ∈ dotsV l, u.oneCell' = true := by
  intro u hu
  obtain ⟨c, _, hc⟩ := List.mem_flatMap.1 hu
  simp only [List.mem_cons, List.not_mem_nil, or_false] at hc
  rcases hc with rfl | rfl | rfl | rfl | rfl | rfl <;> rfl
theorem add_pos (p : Addr) (k : Nat) (h : 0 < k) : p.add k = ⟨p.block, p.off + k, none⟩ := by
  unfold Addr.add
  rw [if_neg (by omega)]
theorem DotAt.cells {W : World} {p : Addr} {d : Dot} (h : DotAt W p d) : ∀ j v, (dotV d)[j]? = some v → W.cell? (p.add j) = some v := by
  obtain ⟨h0, h1, h2, h3, h4, h5⟩ := h
  intro j v hj
  match j, hj with
  | 0, hj => cases hj; exact h0
  | 1, hj => cases hj; rw [add_pos _ _ (by omega)]; exact h1
  | 2, hj => cases hj; rw [add_pos _ _ (by omega)]; exact h2
  | 3, hj => cases hj; rw [add_pos _ _ (by omega)]; exact h3
  | 4, hj => cases hj; rw [add_pos _ _ (by omega)]; exact h4
  | 5, hj => cases hj; rw [add_pos _ _ (by omega)]; exact h5
  | j + 6, hj => simp at hj
theorem dot_of_cells {W : World} {p : Addr} {d : Dot} (h : ∀ j v, (dotV d)[j]? = some v → W.cell? (p.add j) = some v) : DotAt W p d := by
  refine ⟨h 0 _ rfl, ?_, ?_, ?_, ?_, ?_⟩ 
  · have := h 1 _ rfl; rwa [add_pos _ _ (by omega)] at this
  · have := h 2 _ rfl; rwa [add_pos _ _ (by omega)] at this
  · have := h 3 _ rfl; rwa [add_pos _ _ (by omega)] at this
  · have := h 4 _ rfl; rwa [add_pos _ _ (by omega)] at this
  · have := h 5 _ rfl; rwa [add_pos _ _ (by omega)] at this
theorem dots_cells {W : World} {a : Addr} {l : List Dot} (h : DotRow W (some a) l) : ∀ j u, (dotsV l)[j]? = some u → W.cell? (a.add j) = some u := by
  intro j u hj
  have hlt : j < l.length * 6 := by rw [← dotsV_length]; exact (List.getElem?_eq_some_iff.1 hj).1
  obtain ⟨c, hc⟩ : ∃ c, l[j / 6]? = some c := ⟨_, List.getElem?_eq_getElem (by omega)⟩
  obtain ⟨a', e, q⟩ := h.at_ _ c hc
  cases e
  obtain ⟨v, hv⟩ : ∃ v, (dotV c)[j % 6]? = some v := ⟨_, List.getElem?_eq_getElem (by simp; omega)⟩
  have h1 := dotsV_at l _ _ _ _ hc hv
  rw [show j / 6 * 6 + j % 6 = j by omega, hj] at h1
  cases h1
  have h2 := q.cells _ _ hv
  rwa [add_add, show j / 6 * 6 + j % 6 = j by omega] at h2
theorem dots_of_own {W : World} {base E : Nat} {v : Value} {l : List Dot} (hl : l.length ≤ maxLen) (hb : ∀ c ∈ l, WdD c) (h : W.ownsRow base E 6 v l.length (dotsV l)) :
    ∃ ad cap, v = .slice ad l.length cap ∧ DotRow W ad l ∧ (ad = none → l = [] ∧ cap = 0) ∧ (∀ a, ad = some a → ∃ g, a = ⟨g, 0, none⟩ ∧ base ≤ g) ∧ l.length ≤ cap := by
  rcases h.2 with ⟨rfl, h0⟩ | ⟨g, cap, cur, rfl, hbg, hg, hcap, _, _, ht⟩
  · have : l = [] := List.length_eq_zero_iff.1 h0
    subst this
    exact ⟨none, 0, rfl, ⟨hl, fun i c hi => by simp at hi, hb⟩, fun _ => ⟨rfl, rfl⟩, fun a e => (by cases e), Nat.le_refl _⟩
  · refine ⟨some ⟨g, 0, none⟩, cap, rfl, ⟨hl, fun i T hi => ⟨_, rfl, dot_of_cells fun j u hu => ?_⟩, hb⟩, fun e => (by cases e), fun a e => (by cases e; exact ⟨g, rfl, hbg⟩), hcap⟩
    have hc := h.cells (g := g) rfl
    rw [add_add]
    exact hc _ _ (dotsV_at l _ _ _ _ hi hu)
abbrev zeroD : Value := .agg #[.int .i64 0, .int .i64 0, .int .u8 0, .int .u8 0, .int .u8 0, .int .u8 0]
theorem info81 : ∃ i, Try.prog.info? 81 = some i ∧ i.zero = some zeroD ∧ i.size = 6 ∧ i.bytes = 24 := by
  have h : (Try.prog.info? 81).map (fun i => (i.zero, i.size, i.bytes)) = some (some zeroD, 6, 24) := by kernel_rfl
  exact info_parts h

set_option maxRecDepth 100000 in
set_option maxHeartbeats 1000000 in
theorem cloned_any (ad : Option Addr) (cap : Nat) (l : List Dot) (w : World) (h : DotRow w ad l) (hn : ad = none → cap = 0) (hl : l.length ≤ 1000) :
    Calls Try.prog 142 #[.slice ad l.length cap] w fun e w' => ∃ ad' cap', e = .returned (.slice ad' l.length cap') ∧ DotRow w' ad' l ∧ (ad' = none → l = [] ∧ cap' = 0) ∧ (∀ a, ad' = some a → ∃ g, a = ⟨g, 0, none⟩ ∧ w.heap.size ≤ g) ∧ l.length ≤ cap' ∧ Since w w' := by
  cases ad with
  | none =>
    have e : l = [] := by
      cases l with
      | nil => rfl
      | cons c l => obtain ⟨_, e, _⟩ := h.at_ 0 c rfl; cases e
    subst e
    have hc := hn rfl
    subst hc
    clear hn
    have e1 : ∀ w, (binOp BinOp.eql 64 (.slice none 0 0) (.slice none 0 0)).run Try.prog w = .ok (.bool true) w := fun _ => by kernel_rfl
    go_enter Try.func142, Try.ntmps142
    go_wp2
    go_ret
    exact ⟨none, 0, rfl, h, fun _ => by simp, fun a e => (by cases e), Nat.le_refl _, Since.refl _⟩
  | some a =>
    clear hn
    obtain ⟨i0, hi, hz0, hz1, hz2⟩ := info81
    generalize hm : l.length = m at *
    have A := Lib.hid (And.intro hm h)
    clear hm h
    have e1 : ∀ w, (binOp BinOp.eql 64 (.slice (some a) m cap) (.slice none 0 0)).run Try.prog w = .ok (.bool false) w := fun _ => by kernel_rfl
    go_enter Try.func142, Try.ntmps142
    have hA := A.out
    have hO : (w.alloc (.cells #[] 81 (0, 0))).ownsRow w.heap.size 81 6 (.slice (some ⟨w.heap.size, 0, none⟩) 0 0) 0 [] := by
      refine ⟨by simp, .inr ⟨w.heap.size, 0, #[], rfl, Nat.le_refl _, Has.new w _, Nat.le_refl _, by unfold maxLen; omega, by simp, by simp⟩⟩
    have hC := dots_cells (hA.2.since ((Since.refl w).alloc (.cells #[] 81 (0, 0))))
    have H0 := Lib.hid (And.intro hA (And.intro hO hC))
    clear hA hO hC
    go_wp2_with (at_builtin; refine wpList_append_own _ rfl _ _ 64 rfl w.heap.size 81 i0 zeroD 6 24 (by kernel_rfl) hi hz0 hz1 hz2 rfl (by omega) _ 0 [] rfl H0.out.2.1 a m cap (dotsV l) rfl (by rw [dotsV_length, H0.out.1.1]) H0.out.2.2 (dotsV_one l) (by unfold maxLen; omega) (by omega) (by simp) ?_; intro v' w1 hown hg _)
    have hA := H0.out.1
    rw [Nat.zero_add, List.nil_append, ← hA.1] at hown
    obtain ⟨ad', cap', rfl, hc, hn, hfr, hcp⟩ := dots_of_own hA.2.len hA.2.by_ hown
    have hb : Since w w1 := ((Below.refl _ _).alloc (Nat.le_refl _) (.cells #[] 81 (0, 0))).grown hg (by simp) (fun k hk => by cases hk; simp)
    rw [hA.1] at hcp
    go_ret
    exact ⟨ad', cap', by rw [hA.1]; rfl, hc, hn, hfr, hcp, hb⟩

def Few (l : List Dot) (w : World) (e : Ending) (w' : World) : Prop := ∃ ad cap, e = .returned (.slice ad (l.take 30).length cap) ∧ DotRow w' ad (l.take 30) ∧ (ad = none → l.take 30 = [] ∧ cap = 0) ∧ (∀ a, ad = some a → ∃ g, a = ⟨g, 0, none⟩ ∧ w.heap.size ≤ g) ∧ (l.take 30).length ≤ cap ∧ Since w w'
set_option maxRecDepth 100000 in
set_option maxHeartbeats 1000000 in
theorem few_any (ad : Option Addr) (cap : Nat) (l : List Dot) (w : World) (h : DotRow w ad l) (hn : ad = none → cap = 0) (hc : l.length ≤ cap) (_hcm : cap ≤ maxLen) :
    Calls Try.prog 55 #[.slice ad l.length cap] w (Few l w) := by
  have n1 := h.len
  unfold maxLen at n1
  obtain ⟨q, hq⟩ : ∃ q, min l.length 30 = q := ⟨_, rfl⟩
  have lt : (l.take 30) = l.take q := by rw [← hq]; rcases Nat.le_total l.length 30 with h | h
                                         · rw [Nat.min_eq_left h, List.take_of_length_le (by omega), List.take_of_length_le (by omega)]
                                         · rw [Nat.min_eq_right h]
  have lq : (l.take q).length = q := by rw [List.length_take]; omega
  have q1 : min (l.length : Int) 30 = (q : Int) := by omega
  have q2 : q ≤ l.length := by omega
  have q3 : q ≤ 30 := by omega
  have q4 : (q : Int) ≤ (cap : Int) := by omega
  have q5 : (0 : Int) ≤ (q : Int) := by omega
  generalize hm : l.length = m at *
  have A := Lib.hid (And.intro hm (And.intro h (And.intro hn (And.intro lt (And.intro lq hq)))))
  clear hm h hn lt lq hq hc
  go_enter Try.func55, Try.ntmps55
  go_wp2_with ((with_reducible refine wpList_min rfl (.tmp 5) (.const (.int .i64 30)) rfl m 30 ?_ ?_ ?_); (exact rfl); (exact rfl))
  have hcl := cloned_any ad cap (l.take q) w (A.out.2.1.upto q) A.out.2.2.1 (by rw [A.out.2.2.2.2.1]; omega)
  rw [A.out.2.2.2.2.1] at hcl
  refine hcl.mono ?_
  rintro e w2 ⟨a2, cap2, rfl, r2, hn2, hfr, hcp, b2⟩
  have H := Lib.hid (And.intro r2 (And.intro hn2 (And.intro hfr (And.intro hcp b2))))
  clear hcl r2 hn2 hfr hcp b2
  go_wp2
  go_ret
  refine ⟨a2, cap2, ?_, ?_, ?_, ?_, ?_, ?_⟩
  · rw [A.out.2.2.2.1, A.out.2.2.2.2.1]; rfl
  · rw [A.out.2.2.2.1]; exact H.out.1
  · rw [A.out.2.2.2.1]; exact H.out.2.1
  · exact H.out.2.2.1
  · rw [A.out.2.2.2.1, A.out.2.2.2.2.1]; exact H.out.2.2.2.1
  · exact H.out.2.2.2.2
end Go.Proofs.Ytedckelfdkfkoaa
