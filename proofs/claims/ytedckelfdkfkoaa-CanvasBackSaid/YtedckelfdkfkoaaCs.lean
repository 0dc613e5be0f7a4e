/- Walks: how many tiles two canvases share. -/
import Derived.Test.YtedckelfdkfkoaaCb
import Derived.LaidEqlPtr
namespace Go.Proofs.Ytedckelfdkfkoaa
open Go.RowKit Go.Shelf
attribute [local go_sem] Oper.semAt_some
attribute [local go_sem 2000] run_col run_tile
attribute [local go_sem ↓] Go.wp_at_zero Go.wp_at_succ
attribute [local go_sem ↓] zero25 build25 build176z build176 load25 store25
attribute [local go_sem] rowAt_alloc rowFree_alloc rowAt_drew rowFree_drew zeroA_size zc176 zeroA_ones blkOf_ptr aggOf_agg

/-- are two sizes the same? -/
def szB (a b c d : Int) : Bool := decide (a = c ∧ b = d)
theorem szB_self (a b : Int) : szB a b a b = true := by simp [szB]
theorem run_sz (a b c d : Int) (w : World) : (Op.equalIn 10000 186 (.agg #[.int .i64 a, .int .i64 b]) (.agg #[.int .i64 c, .int .i64 d])).run Try.prog w = .ok (szB a b c d) w := by
  by_cases h1 : a = c
  · by_cases h2 : b = d <;> simp [go_sem, szB, h1, h2]
  · simp [go_sem, szB, h1]
attribute [local go_sem 2000] run_sz

theorem info25 : ∃ j, Try.prog.info? 25 = some j ∧ j.size = 256 := by
  have h := size25
  cases hi : Try.prog.info? 25 with
  | none => rw [hi] at h; cases h
  | some j => rw [hi] at h; exact ⟨j, rfl, by simpa using h⟩
/-- are two pointers to tiles the same? -/
theorem run_ptr {p q : Nat} {W : World} {A B : Array Value} {ta tb : TypeId} (hp : Has W p (.cells A ta (0, 0))) (hq : Has W q (.cells B tb (0, 0))) : (binOp .eql 183 (ptrV p) (ptrV q)).run Try.prog W = .ok (.bool (decide (p = q))) W := by
  obtain ⟨j, hj, hs⟩ := info25
  by_cases h : p = q
  · subst h
    rw [run_eql_ptr_same W _ (by kernel_rfl) hj]
    simp
  · rw [run_eql_ptr_other (a := ⟨p, 0, none⟩) (b := ⟨q, 0, none⟩) W (te := 25) (by kernel_rfl) hj (by omega) (by simp) hp hq]
    simp [h]

/-- how many places of two rows hold the same -/
def sameN : List Nat → List Nat → Nat
  | p :: ps, q :: qs => (if p = q then 1 else 0) + sameN ps qs
  | _, _ => 0
theorem sameN_le : ∀ (ps qs : List Nat), sameN ps qs ≤ ps.length
  | [], _ => by simp [sameN]
  | p :: ps, [] => by simp [sameN]
  | p :: ps, q :: qs => by have := sameN_le ps qs; simp only [sameN, List.length_cons]; split <;> omega
def sharedN (c d : Cv) : Nat := if c.w = d.w ∧ c.h = d.h then sameN c.ps d.ps else 0

set_option maxRecDepth 100000 in
set_option maxHeartbeats 2000000 in
theorem shared_any (b b' : Nat) (c d : Cv) (w : World) (hc : CvAt w b c) (hd : CvAt w b' d) :
    Calls Try.prog 57 #[ptrV b, ptrV b'] w fun e w' => e = .returned (.int .i64 (sharedN c d : Nat)) ∧ Below w.heap.size w w' := by
  obtain ⟨g, cap, k⟩ := hc
  obtain ⟨g', cap', k'⟩ := hd
  have K := Lib.hid (And.intro k k')
  by_cases hsz : c.w = d.w ∧ c.h = d.h
  · have e0 : sharedN c d = sameN c.ps d.ps := by unfold sharedN; rw [if_pos hsz]
    rw [e0]
    have hs : szB c.w c.h d.w d.h = true := by unfold szB; rw [hsz.1, hsz.2]; simp
    have n16 := k.ok.le16.2
    rw [← k.ok.np] at n16
    have hl : d.ps.length = c.ps.length := by rw [k.ok.np, k'.ok.np, hsz.1, hsz.2]
    obtain ⟨m, hm⟩ : ∃ m, c.ps.length = m := ⟨_, rfl⟩
    obtain ⟨R, hR⟩ : ∃ R, sameN c.ps d.ps = R := ⟨_, rfl⟩
    have R16 := sameN_le c.ps d.ps
    rw [hm] at n16 hl R16
    rw [hR] at R16 ⊢
    have HM := Lib.hid (And.intro hm (And.intro hl hR))
    clear k k' e0 hsz hm hl hR
    go_enter Try.func57, Try.ntmps57
    go_wp2
    refine wp_region_sched [(0, false), (1, false), (2, false), (3, false), (4, false), (5, false), (6, false), (7, false), (8, false), (9, false), (10, false), (11, false), (12, false), (13, false), (14, false), (15, false), (16, false)] (Since w) (by kernel_rfl) (by kernel_rfl) (Since.refl w).drew ?_
    repeat (refine sched_pure (v := ?_) rfl rfl ?_ ?_; rotate_left; (focus (intro Y hY; have y0 := (K.out.1.rec_.since hY).three; have y1 := (K.out.2.rec_.since hY).three; go_simp; try with_reducible rfl)); go_simp; try go_bits)
    refine sched_end ?_
    clear hs
    have q0 := (K.out.1.rec_.since (Since.refl w).drew).three
    rw [HM.out.1] at q0
    go_wp2
    clear q0
    go_loopg [5, 30] m (fun n v i wr => ∃ k acc : Nat, k ≤ m ∧ n = m - k ∧ i = .int .i64 k ∧ v = .int .i64 acc ∧ acc ≤ k ∧ acc + sameN (c.ps.drop k) (d.ps.drop k) = R ∧ Since w wr)
    case atStart => exact ⟨0, 0, by omega, by omega, rfl, rfl, by omega, by rw [Nat.zero_add]; exact HM.out.2.2, (Since.refl w).drew⟩
    case round =>
      obtain ⟨k, acc, hk, hn, rfl, rfl, ha, hR, hj⟩ := hrel
      obtain ⟨hm, hl, _⟩ := HM.out
      by_cases hlt : k < m
      · obtain ⟨p, hp⟩ : ∃ p, c.ps[k]? = some p := ⟨_, List.getElem?_eq_getElem (by omega)⟩
        obtain ⟨q, hq⟩ : ∃ q, d.ps[k]? = some q := ⟨_, List.getElem?_eq_getElem (by omega)⟩
        have c0 := cell_since (K.out.1.ps_ k p hp) hj
        have c1 := cell_since (K.out.2.ps_ k q hq) hj
        have q1 := (K.out.2.rec_.since hj).three
        rw [hl] at q1
        have ht : k < c.w * c.h := by rw [← K.out.1.ok.np, hm]; exact hlt
        have ht' : k < d.w * d.h := by rw [← K.out.2.ok.np, hl]; exact hlt
        obtain ⟨p', T, hp', _, _, hT, _⟩ := K.out.1.tile ht
        obtain ⟨q', T', hq', _, _, hT', _⟩ := K.out.2.tile ht'
        obtain rfl : p = p' := Option.some.inj (hp.symm.trans hp')
        obtain rfl : q = q' := Option.some.inj (hq.symm.trans hq')
        have hpt := run_ptr (hT.since hj) (hT'.since hj)
        clear ht ht' hT hT' hp' hq'
        rw [List.drop_eq_getElem_cons (by omega), List.drop_eq_getElem_cons (l := d.ps) (by omega), show c.ps[k]'(by omega) = p by rw [List.getElem?_eq_getElem (by omega)] at hp; exact Option.some.inj hp, show d.ps[k]'(by omega) = q by rw [List.getElem?_eq_getElem (by omega)] at hq; exact Option.some.inj hq] at hR
        unfold sameN at hR
        have J := Lib.hid (And.intro hn (And.intro hR hj))
        clear hn hR hj hm hl hp hq
        by_cases hpq : p = q
        · subst hpq
          rw [decide_eq_true rfl] at hpt
          go_wp2
          go_roundg (m - (k + 1))
          case measure => have := J.out.1; omega
          case rel =>
            have hR := J.out.2.1
            simp only [if_true] at hR
            exact ⟨k + 1, acc + 1, hlt, rfl, by go_num, by go_num, by omega, by omega, J.out.2.2⟩
        · rw [decide_eq_false hpq] at hpt
          have HPQ := Lib.hid hpq
          clear hpq
          go_wp2
          go_roundg (m - (k + 1))
          case measure => have := J.out.1; omega
          case rel =>
            have hR := J.out.2.1
            rw [if_neg HPQ.out] at hR
            exact ⟨k + 1, acc, hlt, rfl, by go_num, rfl, by omega, by omega, J.out.2.2⟩
      · obtain rfl : k = m := by omega
        have J := Lib.hid (And.intro hR hj)
        clear hR hj hn
        go_wp2
        go_ret
        refine ⟨?_, J.out.2⟩
        have hR := J.out.1
        rw [List.drop_eq_nil_of_le (by omega)] at hR
        simp only [sameN, Nat.add_zero] at hR
        rw [← hR]; rfl
  · have e0 : sharedN c d = 0 := by unfold sharedN; rw [if_neg hsz]
    rw [e0]
    have hs : szB c.w c.h d.w d.h = false := by unfold szB; simp; omega
    clear k k' e0 hsz
    go_enter Try.func57, Try.ntmps57
    go_wp2
    refine wp_region_sched [(0, false), (1, false), (2, false), (3, false), (4, false), (5, false), (6, false), (7, false), (8, false), (9, false), (10, false), (11, false), (12, false), (13, false), (14, false), (15, false), (16, false)] (Since w) (by kernel_rfl) (by kernel_rfl) (Since.refl w).drew ?_
    repeat (refine sched_pure (v := ?_) rfl rfl ?_ ?_; rotate_left; (focus (intro Y hY; have y0 := (K.out.1.rec_.since hY).three; have y1 := (K.out.2.rec_.since hY).three; go_simp; try with_reducible rfl)); go_simp; try go_bits)
    refine sched_end ?_
    go_wp2
    go_ret
    exact ⟨rfl, (Since.refl w).drew⟩
set_option maxRecDepth 100000 in
set_option maxHeartbeats 1000000 in
theorem shared_nil1 (v : Value) (w : World) :
    Calls Try.prog 57 #[.pointer none, v] w fun e w' => e = .returned (.int .i64 0) ∧ Below w.heap.size w w' := by
  go_enter Try.func57, Try.ntmps57
  go_wp2
  refine wp_region_sched [(0, false), (1, false), (2, false), (3, false), (4, false), (5, false), (6, false), (7, false), (8, false), (9, false), (10, false), (11, false), (12, false), (13, false), (14, false), (15, false), (16, false)] (Since w) (by kernel_rfl) (by kernel_rfl) (Since.refl w).drew ?_
  iterate 17 (first | (refine sched_idle rfl rfl (Since.refl w).drew ?_; go_simp) | (refine sched_pure (v := ?_) rfl rfl ?_ ?_; rotate_left; (focus (intro Y hY; go_simp; try with_reducible rfl)); go_simp; try go_bits))
  refine sched_end ?_
  go_wp2
  go_ret
  exact ⟨rfl, (Since.refl w).drew⟩
set_option maxRecDepth 100000 in
set_option maxHeartbeats 1000000 in
theorem shared_nil2 (b : Nat) (w : World) :
    Calls Try.prog 57 #[ptrV b, .pointer none] w fun e w' => e = .returned (.int .i64 0) ∧ Below w.heap.size w w' := by
  go_enter Try.func57, Try.ntmps57
  go_wp2
  refine wp_region_sched [(0, false), (1, false), (2, false), (3, false), (4, false), (5, false), (6, false), (7, false), (8, false), (9, false), (10, false), (11, false), (12, false), (13, false), (14, false), (15, false), (16, false)] (Since w) (by kernel_rfl) (by kernel_rfl) (Since.refl w).drew ?_
  iterate 17 (first | (refine sched_idle rfl rfl (Since.refl w).drew ?_; go_simp) | (refine sched_pure (v := ?_) rfl rfl ?_ ?_; rotate_left; (focus (intro Y hY; go_simp; try with_reducible rfl)); go_simp; try go_bits))
  refine sched_end ?_
  go_wp2
  go_ret
  exact ⟨rfl, (Since.refl w).drew⟩
end Go.Proofs.Ytedckelfdkfkoaa
