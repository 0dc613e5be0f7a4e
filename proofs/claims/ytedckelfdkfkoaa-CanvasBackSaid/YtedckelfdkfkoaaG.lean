/- Walks: how many there are of which something holds: Count, Runs. -/
import Derived.Test.YtedckelfdkfkoaaE
namespace Go.Proofs.Ytedckelfdkfkoaa
open Go.RowKit Go.Shelf
attribute [local go_sem] Oper.semAt_some
attribute [local go_sem 2000] run_col run_tile
attribute [local go_sem ↓] zero25 build25 build176z build176 load25 store25
attribute [local go_sem] rowAt_alloc rowFree_alloc rowAt_drew rowFree_drew zeroA_size zc176 zeroA_ones blkOf_ptr aggOf_agg

abbrev colC (c : Col) : Array Value := #[.int .u8 c.1, .int .u8 c.2.1, .int .u8 c.2.2.1, .int .u8 c.2.2.2]
/-- how many there are of which something holds, that remembers a colour -/
def manyN (f : Col → Col → Bool × Col) : Col → List Col → Nat
  | _, [] => 0
  | s, c :: l => (if (f s c).1 = true then 1 else 0) + manyN f (f s c).2 l
theorem manyN_le (f : Col → Col → Bool × Col) : ∀ (s : Col) (l : List Col), manyN f s l ≤ l.length
  | _, [] => Nat.le_refl _
  | s, c :: l => by have := manyN_le f (f s c).2 l; unfold manyN; simp only [List.length_cons]; split <;> omega

set_option maxRecDepth 100000 in
set_option maxHeartbeats 1000000 in
theorem many_any (gc : Nat) (en : Enters Try.prog gc) (f : Col → Col → Bool × Col) (s : Col) (r : Nat) (ad : Option Addr) (cap : Nat) (l : List Col) (w : World) (hl : ColRow w ad l) (hne : ∀ a, ad = some a → a.block ∉ [r]) (hr : Has w r (.cells (colC s) 23 (0, 0)))
    (hc : ∀ (s c : Col) (W : World), Has W r (.cells (colC s) 23 (0, 0)) → Calls Try.prog gc #[colV c, .pointer (some ⟨r, 0, none⟩)] W fun e w' => e = .returned (.bool (f s c).1) ∧ Has w' r (.cells (colC (f s c).2) 23 (0, 0)) ∧ Grew [r] W w') :
    Calls Try.prog 127 #[.slice ad l.length cap, .func (.func gc) #[] #[.pointer (some ⟨r, 0, none⟩)]] w fun e w' => e = .returned (.int .i64 (manyN f s l)) ∧ Grew [r] w w' := by
  have n1 := hl.len
  unfold maxLen at n1
  have n2 := manyN_le f s l
  generalize hm1 : l.length = m1 at *
  obtain ⟨R, hR⟩ : ∃ R, manyN f s l = R := ⟨_, rfl⟩
  rw [hR] at n2 ⊢
  have hrl := hr.lt
  have A0 := Lib.hid (And.intro hm1 (And.intro hl (And.intro hR (And.intro hne (And.intro hr hc)))))
  have En : Hid (∀ args w, (callFunc gc args).run Try.prog w = .ok (.enter gc args) w) := Lib.hid en
  clear hm1 hl hR hne hr hc en
  go_enter Try.func127, Try.ntmps127
  go_wp2
  go_loopg [5, 10] m1 (fun n v i wr => ∃ (k acc : Nat) (t : Col), k ≤ m1 ∧ n = m1 - k ∧ i = .int .i64 k ∧ v = .int .i64 acc ∧ acc + manyN f t (l.drop k) = R ∧ acc ≤ k ∧ Has wr r (.cells (colC t) 23 (0, 0)) ∧ Grew [r] w wr)
  case atStart => exact ⟨0, 0, s, by omega, by omega, rfl, rfl, by rw [Nat.zero_add]; exact A0.out.2.2.1, by omega, A0.out.2.2.2.2.1, Grew.refl _ _⟩
  case round =>
    obtain ⟨k, acc, t, hk, hn, rfl, rfl, hR, ha, hF, hG⟩ := hrel
    by_cases hlt : k < m1
    · obtain ⟨hm1, hl, _, hne, _, hc⟩ := A0.out
      obtain ⟨c, hcl⟩ : ∃ c, l[k]? = some c := ⟨_, List.getElem?_eq_getElem (by omega)⟩
      obtain ⟨p, rfl, q⟩ := (hl.grew hG hne).at_ k c hcl
      rw [List.drop_eq_getElem_cons (by omega), show l[k]'(by omega) = c by rw [List.getElem?_eq_getElem (by omega)] at hcl; exact Option.some.inj hcl] at hR
      unfold manyN at hR
      unfold ColAt at q
      have B := Lib.hid (And.intro hn (And.intro hR (And.intro hF hG)))
      have en' := En.out
      clear hn hR hF hG hm1 hl hne hcl
      have Hc := Lib.hid hc
      clear hc
      go_wp2_with (fail)
      refine (Hc.out t c _ (B.out.2.2.1.alloc _)).mono ?_
      rintro e w2 ⟨rfl, h1, h2⟩
      have H2 := Lib.hid (And.intro h1 h2)
      clear h1 h2 q en'
      cases hfb : (f t c).1 with
      | true =>
        have HB := Lib.hid hfb
        clear hfb
        go_wp2
        obtain ⟨hn, hR, hF, hG⟩ := B.out
        rw [HB.out, if_pos rfl] at hR
        go_roundg (m1 - (k + 1))
        case measure => omega
        case rel => exact ⟨k + 1, acc + 1, _, hlt, rfl, by go_num, by go_num, by omega, by omega, H2.out.1, (hG.alloc _).trans H2.out.2⟩
      | false =>
        have HB := Lib.hid hfb
        clear hfb
        go_wp2
        obtain ⟨hn, hR, hF, hG⟩ := B.out
        rw [HB.out] at hR
        go_roundg (m1 - (k + 1))
        case measure => omega
        case rel => exact ⟨k + 1, acc, _, hlt, rfl, by go_num, rfl, by simpa using hR, by omega, H2.out.1, (hG.alloc _).trans H2.out.2⟩
    · obtain rfl : k = m1 := by omega
      rw [List.drop_eq_nil_of_le (by rw [A0.out.1]; exact Nat.le_refl _)] at hR
      have hR' : acc = R := by simpa [manyN] using hR
      subst hR'
      have H2 := Lib.hid hG
      clear hR hn hF hG
      go_wp2
      go_ret
      exact ⟨rfl, H2.out⟩

def countF (s c : Col) : Bool × Col := (decide (c = s), s)
def runsF (s c : Col) : Bool × Col := (!decide (c = s), c)
theorem colB_eq' (c0 c1 c2 c3 s0 s1 s2 s3 : Int) : colB c0 c1 c2 c3 s0 s1 s2 s3 = decide (((c0, c1, c2, c3) : Col) = (s0, s1, s2, s3)) := colB_eq (c0, c1, c2, c3) (s0, s1, s2, s3)
set_option maxHeartbeats 400000 in
theorem count1_any (s c : Col) (r : Nat) (w : World) (h : Has w r (.cells (colC s) 23 (0, 0))) :
    Calls Try.prog 129 #[colV c, .pointer (some ⟨r, 0, none⟩)] w fun e w' => e = .returned (.bool (countF s c).1) ∧ Has w' r (.cells (colC (countF s c).2) 23 (0, 0)) ∧ Grew [r] w w' := by
  have h0 := h.four
  have hl := h.lt
  have H := Lib.hid h
  clear h
  obtain ⟨c0, c1, c2, c3⟩ := c
  obtain ⟨s0, s1, s2, s3⟩ := s
  simp only [] at h0
  go_enter Try.func129, Try.ntmps129
  go_wp2
  go_ret
  exact ⟨congrArg (fun b => Ending.returned (.bool b)) (colB_eq' _ _ _ _ _ _ _ _), H.out.alloc _, (Grew.refl _ _).alloc _⟩
set_option maxHeartbeats 400000 in
theorem runs1_any (s c : Col) (r : Nat) (w : World) (h : Has w r (.cells (colC s) 23 (0, 0))) :
    Calls Try.prog 128 #[colV c, .pointer (some ⟨r, 0, none⟩)] w fun e w' => e = .returned (.bool (runsF s c).1) ∧ Has w' r (.cells (colC (runsF s c).2) 23 (0, 0)) ∧ Grew [r] w w' := by
  have h0 := h.four
  have f0 := h.free4
  have hl := h.lt
  have H := Lib.hid h
  clear h
  obtain ⟨c0, c1, c2, c3⟩ := c
  obtain ⟨s0, s1, s2, s3⟩ := s
  simp only [] at h0
  go_enter Try.func128, Try.ntmps128
  go_wp2
  go_ret
  exact ⟨congrArg (fun b => Ending.returned (.bool (!b))) (colB_eq' _ _ _ _ _ _ _ _), (H.out.put4 _ _ _ _).alloc _, (((((Grew.refl [r] w).setCell (a := ⟨r, _, none⟩) _ (.inl (by simp))).setCell (a := ⟨r, _, none⟩) _ (.inl (by simp))).setCell (a := ⟨r, _, none⟩) _ (.inl (by simp))).setCell (a := ⟨r, _, none⟩) _ (.inl (by simp))).alloc _⟩
set_option maxRecDepth 100000 in
set_option maxHeartbeats 1000000 in
theorem count_any (T : List Col) (c : Col) (w : World) (hT : T.length = 64) (hb : ∀ d ∈ T, ByC d) :
    Calls Try.prog 30 #[.agg (tileA T), colV c] w fun e w' => e = .returned (.int .i64 (manyN countF c T)) ∧ Below w.heap.size w w' := by
  have HT := Lib.hid (And.intro hT hb)
  clear hT hb
  obtain ⟨c0, c1, c2, c3⟩ := c
  go_enter Try.func30, Try.ntmps30
  go_wp2_with (fail)
  have hm := many_any 129 (enters_of Try.func129 (by kernel_rfl) rfl) countF (c0, c1, c2, c3) (w.heap.size + 1) (some ⟨w.heap.size, 0, none⟩) 64 T ((w.alloc (.cells (tileA T) 25)).alloc (.cells (colC (c0, c1, c2, c3)) 23))
    (((Has.new w _).alloc _).colRow (by rw [HT.out.1]; unfold maxLen; omega) HT.out.2) (by rintro a e; cases e; simp) (Has.new' (by simp)) (fun s c W h => count1_any s c _ W h)
  rw [HT.out.1] at hm
  refine hm.mono ?_
  rintro e w1 ⟨rfl, hg⟩
  have H := Lib.hid ((((Below.refl w.heap.size w).alloc (by simp) _).alloc (by simp <;> omega) _).trans (hg.below (by simp; omega) (by simp)))
  clear hm hg
  go_wp2
  go_ret
  exact ⟨rfl, H.out⟩
set_option maxRecDepth 100000 in
set_option maxHeartbeats 1000000 in
theorem runs_any (T : List Col) (w : World) (hT : T.length = 64) (hb : ∀ d ∈ T, ByC d) :
    Calls Try.prog 28 #[.agg (tileA T)] w fun e w' => e = .returned (.int .i64 (1 + manyN runsF (atT T 0) T : Nat)) ∧ Below w.heap.size w w' := by
  have f := tile_at (T := T) (k := 0) (by omega)
  have n2 := manyN_le runsF (atT T 0) T
  rw [hT] at n2
  generalize atT T 0 = c at *
  obtain ⟨c0, c1, c2, c3⟩ := c
  have HT := Lib.hid (And.intro hT hb)
  clear hT hb
  go_enter Try.func28, Try.ntmps28
  go_wp2_with (fail)
  have hm := many_any 128 (enters_of Try.func128 (by kernel_rfl) rfl) runsF (c0, c1, c2, c3) (w.heap.size + 1) (some ⟨w.heap.size, 0, none⟩) 64 T ((w.alloc (.cells (tileA T) 25)).alloc (.cells (colC (c0, c1, c2, c3)) 23))
    (((Has.new w _).alloc _).colRow (by rw [HT.out.1]; unfold maxLen; omega) HT.out.2) (by rintro a e; cases e; simp) (Has.new' (by simp)) (fun s c W h => runs1_any s c _ W h)
  rw [HT.out.1] at hm
  refine hm.mono ?_
  rintro e w1 ⟨rfl, hg⟩
  have H := Lib.hid ((((Below.refl w.heap.size w).alloc (by simp) _).alloc (by simp <;> omega) _).trans (hg.below (by simp; omega) (by simp)))
  clear hm hg f
  obtain ⟨N, hN⟩ : ∃ N, manyN runsF (c0, c1, c2, c3) T = N := ⟨_, rfl⟩
  rw [hN] at n2 ⊢
  have HN := Lib.hid hN
  clear hN
  go_wp2
  go_ret
  exact ⟨by rw [HN.out]; simp, H.out⟩
end Go.Proofs.Ytedckelfdkfkoaa
