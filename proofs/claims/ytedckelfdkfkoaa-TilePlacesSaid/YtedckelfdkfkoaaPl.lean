/- The law TilePlaces: which pixels there are, and what is put there. -/
import Derived.Test.YtedckelfdkfkoaaO
import Derived.Test.YtedckelfdkfkoaaWk
import Derived.Test.YtedckelfdkfkoaaPc
import Derived.Test.YtedckelfdkfkoaaSi
import Derived.Test.YtedckelfdkfkoaaMi
namespace Go.Proofs.Ytedckelfdkfkoaa
open Go.RowKit Go.Shelf
attribute [local go_sem] Oper.semAt_some
attribute [local go_sem 2000] run_col run_tile run_pt
attribute [local go_sem] colB_self ptB_self
attribute [local go_sem ↓] Go.wp_at_zero Go.wp_at_succ
attribute [local go_sem ↓] zero25 build25 build176z build176 load25 store25 exec_min
attribute [local go_sem] rowAt_alloc rowFree_alloc rowAt_drew rowFree_drew rowAt_alloc_map zeroA_size zc176 zeroA_ones blkOf_ptr aggOf_agg intOf_int

theorem withR_eq (R : Option (List Col)) : withR R = .tuple #[.agg (tileA (R.getD blankT)), .int .i64 (if R.isSome = true then 0 else 140)] := by cases R <;> rfl
theorem rwithR_eq (R : Option (List Col)) : rwithR R = .tuple #[.agg (tileA (R.getD blankT)), .bool R.isSome] := by cases R <;> rfl

set_option maxRecDepth 100000 in
set_option maxHeartbeats 4000000 in
theorem places_law (T : List Col) (c : Col) (ad : Option Addr) (cap : Nat) (l : List (Int × Int)) (w : World) (hT : T.length = 64) (hl : PtRow w ad l) (hcap : l.length ≤ cap) (hz : ad = none → cap = 0) :
    Calls Try.prog 7 #[.agg (tileA T), colV c, .slice ad l.length cap] w fun e w' => e = .returned (.bool true) ∧ Below w.heap.size w w' := by
  have n1 := hl.len
  unfold maxLen at n1
  generalize hm1 : l.length = m1 at *
  have hs : (tileA T).size = 256 := by rw [tileA_size, hT]
  have A0 := Lib.hid (And.intro hm1 (And.intro hl (And.intro hcap hz)))
  clear hm1 hl hcap hz
  obtain ⟨c0, c1, c2, c3⟩ := c
  go_enter Try.func7, Try.ntmps7
  go_wp2_with (fail)
  refine (wakes4_any _).mono ?_
  rintro e w1 ⟨rfl, hb1⟩
  have x0 := ((Has.new w (.cells (tileA T) 25 (0, 0))).alloc (.cells (colC (c0, c1, c2, c3)) 23 (0, 0))).below hb1 (by simp <;> omega)
  have x1 := (Has.new' (W := w.alloc (.cells (tileA T) 25 (0, 0))) (r := w.heap.size + 1) (o := .cells (colC (c0, c1, c2, c3)) 23 (0, 0)) (by simp)).below hb1 (by simp)
  have s1 : Since w w1 := (((Since.refl w).alloc (.cells (tileA T) 25)).alloc (.cells (colC (c0, c1, c2, c3)) 23)).step hb1
  clear hb1
  obtain ⟨q, hq⟩ : ∃ q : Nat, min m1 12 = q := ⟨_, rfl⟩
  have q1 : min (m1 : Int) 12 = (q : Int) := by omega
  have q2 : q ≤ m1 ∧ q ≤ 12 := by omega
  obtain ⟨q2, q3⟩ := q2
  have q4 : (q : Int) ≤ (cap : Int) := by have := A0.out.2.2.1; omega
  have q5 : (0 : Int) ≤ (q : Int) := by omega
  have Q := Lib.hid hq
  have lt : (l.take q).length = q := by rw [List.length_take, A0.out.1]; omega
  have LT := Lib.hid lt
  have S0 := Lib.hid (And.intro x0 (And.intro x1 s1))
  clear hq lt x0 x1 s1
  go_wp2_with ((with_reducible refine wpList_min rfl (.tmp 22) (.const (.int .i64 12)) rfl m1 12 ?_ ?_ ?_); (exact rfl); (exact rfl))
  have hcl := clonep_any ad cap (l.take q) w1 ((A0.out.2.1.since S0.out.2.2).take q) A0.out.2.2.2 (by rw [LT.out]; omega)
  rw [LT.out] at hcl
  refine hcl.mono ?_
  rintro e w2 ⟨a2, cap2, rfl, r2, _, b2⟩
  have s2 := S0.out.2.2.step b2
  obtain ⟨L, hL⟩ : ∃ L, l.take q = L := ⟨_, rfl⟩
  have HL := Lib.hid (And.intro hL (And.intro LT.out r2))
  have S2 := Lib.hid (And.intro (S0.out.1.below b2 S0.out.1.lt) (And.intro (S0.out.2.1.below b2 S0.out.2.1.lt) s2))
  clear hcl r2 b2 s2 hL q1 q4 q5
  go_wp2
  go_loopg [28] q (fun n i wr => ∃ k : Nat, k ≤ q ∧ n = q - k ∧ i = .int .i64 k ∧ Since w2 wr)
  case atStart => exact ⟨0, by omega, by omega, rfl, Since.refl _⟩
  case round =>
    obtain ⟨k, hk, hn, rfl, hj⟩ := hrel
    have k0 := S2.out.1.since hj
    have e0 := k0.row
    have l0 := k0.lt
    by_cases hlt : k < q
    · obtain ⟨hL, lt, r2⟩ := HL.out
      obtain ⟨⟨px, py⟩, hp⟩ : ∃ p, (l.take q)[k]? = some p := ⟨_, List.getElem?_eq_getElem (by omega)⟩
      obtain ⟨a, rfl, qa, qb⟩ := (r2.since hj).at_ k _ hp
      simp only [] at qa qb
      have J := Lib.hid (And.intro hn hj)
      clear hn hj hL lt r2 hp k0
      cases hB : isB px py with
      | true =>
        obtain ⟨i, j, hi, hi', rfl, rfl⟩ := isB_true hB
        have HB := Lib.hid hB
        clear hB
        go_wp2_with (fail)
        refine (at_any T i j _ hT).mono ?_
        rintro e u1 ⟨rfl, g1⟩
        rw [atV_yes hi hi']
        obtain ⟨d, hd⟩ : ∃ d, atT T (j * 8 + i) = d := ⟨_, rfl⟩
        rw [hd]
        have HD := Lib.hid hd
        have P1 := (Has.new wr (.cells #[.int .i64 (i : Int), .int .i64 (j : Int)] 43 (0, 0))).below g1 (Has.new _ _).lt
        have J1 := J.out.2.alloc (.cells #[.int .i64 (i : Int), .int .i64 (j : Int)] 43) |>.step g1
        obtain ⟨d0, d1, d2, d3⟩ := d
        have pa := P1.cell 0
        have pb := P1.cell 1
        have l1 := P1.lt
        have e1 := (S2.out.1.since J1).row
        have l2 := (S2.out.1.since J1).lt
        have PJ := Lib.hid (And.intro P1 J1)
        clear hd g1 P1 J1 qa qb e0
        go_wp2_with (go_at_call 43; refine (ris_any _ _ _).mono ?_; rintro e w' ⟨he, rfl⟩; rw [HB.out] at he; subst he)
        refine (rat_any T i j _ hT hi hi').mono ?_
        rintro e u2 ⟨rfl, g2⟩
        rw [show 8 * j + i = j * 8 + i by omega, HD.out]
        have D1 := ((Has.new u1 (.cells (colC (d0, d1, d2, d3)) 23 (0, 0))).alloc (.cells (colC (0, 0, 0, 0)) 23 (0, 0))).below g2 ((Has.new _ _).alloc _).lt
        have D2 := (Has.new' (W := u1.alloc (.cells (colC (d0, d1, d2, d3)) 23)) (r := u1.heap.size + 1) (o := .cells (colC (0, 0, 0, 0)) 23 (0, 0)) (by simp)).below g2 (Has.new' (by simp)).lt
        have J2 := ((PJ.out.2.alloc (.cells (colC (d0, d1, d2, d3)) 23)).alloc (.cells (colC (0, 0, 0, 0)) 23)).step g2
        have d4 := D1.four
        have d5 := D2.four
        have d6 := D2.free4
        have l3 := D2.lt
        have J3 := Lib.hid J2
        have sz1 := PJ.out.2.size
        clear D1 D2 J2 g2 pa pb e1
        go_wp2
        go_roundg (q - (k + 1))
        case measure => have := J.out.1; omega
        case rel => exact ⟨k + 1, hlt, rfl, by go_num, (((J3.out.setCell _ (by simp; omega)).setCell _ (by simp; omega)).setCell _ (by simp; omega)).setCell _ (by simp; omega)⟩
      | false =>
        have HB := Lib.hid hB
        clear hB
        go_wp2_with (fail)
        refine (at_any T px py _ hT).mono ?_
        rintro e u1 ⟨rfl, g1⟩
        rw [atV_no HB.out]
        have P1 := (Has.new wr (.cells #[.int .i64 px, .int .i64 py] 43 (0, 0))).below g1 (Has.new _ _).lt
        have J1 := J.out.2.alloc (.cells #[.int .i64 px, .int .i64 py] 43) |>.step g1
        have pa := P1.cell 0
        have pb := P1.cell 1
        have l1 := P1.lt
        have PJ := Lib.hid (And.intro P1 J1)
        clear g1 P1 J1 qa qb e0
        go_wp2_with (go_at_call 43; refine (ris_any _ _ _).mono ?_; rintro e w' ⟨he, rfl⟩; rw [HB.out] at he; subst he)
        go_roundg (q - (k + 1))
        case measure => have := J.out.1; omega
        case rel => exact ⟨k + 1, hlt, rfl, by go_num, (PJ.out.2.alloc _).alloc _⟩
    · obtain rfl : k = q := by omega
      have J := Lib.hid hj
      have k1 := (S2.out.2.1.since hj).four
      clear hn hj k0
      go_wp2_with (fail)
      have hw := with_any T (c0, c1, c2, c3) a2 cap2 (l.take k) wr hT (HL.out.2.2.since J.out)
      rw [LT.out, withR_eq] at hw
      refine hw.mono ?_
      rintro e v1 ⟨rfl, f1⟩
      clear hw
      obtain ⟨R, hR⟩ : ∃ R, withT (c0, c1, c2, c3) T (l.take k) = R := ⟨_, rfl⟩
      rw [hR]
      have lR : (R.getD blankT).length = 64 := by
        cases R with
        | none => exact blankT_length
        | some T' => exact (withT_length hR).trans hT
      have HR := Lib.hid hR
      clear hR
      obtain ⟨ok, hok⟩ : ∃ ok, R.isSome = ok := ⟨_, rfl⟩
      rw [hok]
      obtain ⟨er, her⟩ : ∃ er : Int, (if ok = true then (0 : Int) else 140) = er := ⟨_, rfl⟩
      rw [her]
      have HOK := Lib.hid (And.intro hok her)
      clear hok her
      have sR : (tileA (R.getD blankT)).size = 256 := by rw [tileA_size, lR]
      have oR := onesB_tile (R.getD blankT)
      obtain ⟨T2, hT2⟩ : ∃ T2, R.getD blankT = T2 := ⟨_, rfl⟩
      rw [hT2] at sR oR lR ⊢
      have HT2 := Lib.hid hT2
      clear hT2
      obtain ⟨A, hA⟩ : ∃ A, tileA T2 = A := ⟨_, rfl⟩
      rw [hA] at sR oR ⊢
      have HA := Lib.hid hA
      have j1 := J.out.step f1
      have x0 := S2.out.1.since j1
      have x1 := S2.out.2.1.since j1
      have e1 := ((x0.alloc (.cells zeroA 25)).setRow_other A (b := v1.heap.size) (by have := x0.lt; omega)).row
      have l1 := x0.lt
      have l2 := x1.lt
      have e2 := ((x1.alloc (.cells zeroA 25)).setRow_other A (b := v1.heap.size) (by have := x1.lt; omega)).four
      have J1 := Lib.hid j1
      clear f1 j1 x0 x1 k1 e0 hA
      go_wp2_with (fail)
      obtain rfl := HA.out
      generalize hX : World.setRow _ _ _ = X
      have sz : X.heap.size = v1.heap.size + 1 := by rw [← hX]; simp
      have x0 : Has X w.heap.size (.cells (tileA T) 25 (0, 0)) := by rw [← hX]; exact ((S2.out.1.since J1.out).alloc _).setRow_other _ (by omega)
      have x1 : Has X (w.heap.size + 1) (.cells (colC (c0, c1, c2, c3)) 23 (0, 0)) := by rw [← hX]; exact ((S2.out.2.1.since J1.out).alloc _).setRow_other _ (by omega)
      have x2 : Has X v1.heap.size (.cells (tileA T2) 25 (0, 0)) := by rw [← hX]; exact (Has.new' (o := .cells zeroA 25) (by simp)).setRow _
      have j1 : Since w2 X := by rw [← hX]; exact (J1.out.alloc _).setRow J1.out.size _
      have HX := Lib.hid (And.intro x0 (And.intro x1 (And.intro x2 (And.intro j1 sz))))
      clear hX x0 x1 x2 j1 sz J1 e1 e2 HA
      have hw := rwith_any T (c0, c1, c2, c3) a2 cap2 (l.take k) X hT (HL.out.2.2.since HX.out.2.2.2.1)
      rw [LT.out, rwithR_eq, HR.out, HOK.out.1, HT2.out] at hw
      refine hw.mono ?_
      rintro e v2 ⟨rfl, f2⟩
      clear hw
      obtain ⟨A, hA⟩ : ∃ A, tileA T2 = A := ⟨_, rfl⟩
      rw [hA] at sR oR ⊢
      have HA := Lib.hid hA
      have y0 := HX.out.1.below f2 HX.out.1.lt
      have y1 := HX.out.2.1.below f2 HX.out.2.1.lt
      have y2 := HX.out.2.2.1.below f2 HX.out.2.2.1.lt
      have j2 := HX.out.2.2.2.1.step f2
      have l3 := y2.lt
      have l4 := y0.lt
      have l5 := y1.lt
      have HY := Lib.hid (And.intro y0 (And.intro y1 (And.intro y2 j2)))
      clear y0 y1 y2 j2 f2 hA HX
      go_wp2
      obtain rfl := HA.out
      generalize hX : World.setRow _ _ _ = Z
      have sz : Z.heap.size = v2.heap.size + 1 := by rw [← hX]; simp
      have x0 : Has Z w.heap.size (.cells (tileA T) 25 (0, 0)) := by rw [← hX]; exact (HY.out.1.alloc _).setRow_other _ (by omega)
      have x1 : Has Z (w.heap.size + 1) (.cells (colC (c0, c1, c2, c3)) 23 (0, 0)) := by rw [← hX]; exact (HY.out.2.1.alloc _).setRow_other _ (by omega)
      have x2 : Has Z v1.heap.size (.cells (tileA T2) 25 (0, 0)) := by rw [← hX]; exact (HY.out.2.2.1.alloc _).setRow_other _ (by omega)
      have x3 : Has Z v2.heap.size (.cells (tileA T2) 25 (0, 0)) := by rw [← hX]; exact (Has.new' (o := .cells zeroA 25) (by simp)).setRow _
      have j2 : Since w2 Z := by rw [← hX]; exact (HY.out.2.2.2.alloc _).setRow HY.out.2.2.2.size _
      have R0 := Lib.hid x2.rowS
      have R1 := Lib.hid x3.rowS
      have HZ := Lib.hid (And.intro x1 j2)
      clear hX sz x0 x1 x2 x3 j2 oR HA HY
      have q6 : (k : Int) ≤ (cap : Int) := by have := A0.out.2.2.1; omega
      have q7 : (0 : Int) ≤ (k : Int) := by omega
      have HOE : (ok = true ∧ er = 0) ∨ (ok = false ∧ er = 140) := by
        have := HOK.out.2
        cases ok
        · exact .inr ⟨rfl, this.symm⟩
        · exact .inl ⟨rfl, this.symm⟩
      clear HOK
      obtain ⟨NT, hNT⟩ : ∃ NT, List.replicate 64 ((c0, c1, c2, c3) : Col) = NT := ⟨_, rfl⟩
      have lN : NT.length = 64 := by rw [← hNT]; exact List.length_replicate
      have HNT := Lib.hid hNT
      clear hNT
      rcases HOE with ⟨rfl, rfl⟩ | ⟨rfl, rfl⟩
      all_goals
        refine wp_region_sched [(0, false), (1, false), (2, false), (3, false), (4, false), (5, false), (6, false), (7, false), (8, false), (9, false), (10, false), (11, false), (12, false), (13, false), (14, false), (15, false), (16, false), (17, false), (19, false), (18, true), (20, true), (21, false), (22, false), (23, false), (24, false), (25, false), (26, false), (27, false), (28, false), (29, true), (30, false), (31, false)] (Since Z) (by kernel_rfl) (by kernel_rfl) (Since.refl Z).drew ?_
        repeat (refine sched_pure (v := ?_) rfl rfl ?_ ?_; rotate_left; (focus (intro Y hY; first | (refine (exec_tile (R0.out Y hY) sR rfl).trans ?_; with_reducible rfl) | (refine (exec_tile (R1.out Y hY) sR rfl).trans ?_; with_reducible rfl) | (have y0 := (HZ.out.1.since hY).four; go_simp; try with_reducible rfl))); go_simp; try go_bits)
        iterate 2 (try (refine sched_idle rfl rfl (Since.refl Z).drew ?_; go_simp))
        repeat (refine sched_pure (v := ?_) rfl rfl ?_ ?_; rotate_left; (focus (intro Y hY; first | (refine (exec_tile (R0.out Y hY) sR rfl).trans ?_; with_reducible rfl) | (refine (exec_tile (R1.out Y hY) sR rfl).trans ?_; with_reducible rfl) | (have y0 := (HZ.out.1.since hY).four; go_simp; try with_reducible rfl))); go_simp; try go_bits)
        refine sched_act rfl rfl ?_
        go_simp
        refine (new_any (c0, c1, c2, c3) _).mono ?_
        rintro e v3 ⟨rfl, f3⟩
        rw [newT, HNT.out]
        have s3 : Since Z v3 := (Since.refl Z).drew.step f3
        refine ⟨s3, ?_⟩
        refine sched_act rfl rfl ?_
        go_simp
        refine (rnew_any (c0, c1, c2, c3) _).mono ?_
        rintro e v4 ⟨rfl, f4⟩
        rw [HNT.out]
        have s4 := s3.step f4
        refine ⟨s4, ?_⟩
        repeat (refine sched_pure (v := ?_) rfl rfl ?_ ?_; rotate_left; (focus (intro Y hY; first | (refine (exec_tile (R0.out Y hY) sR rfl).trans ?_; with_reducible rfl) | (refine (exec_tile (R1.out Y hY) sR rfl).trans ?_; with_reducible rfl) | (have y0 := (HZ.out.1.since hY).four; go_simp; try with_reducible rfl))); go_simp; try go_bits)
        refine sched_act rfl rfl ?_
        go_simp
        have he := equalp_any a2 ad cap2 cap (l.take k) (l.take k) v4 (HL.out.2.2.since (HZ.out.2.trans s4)) ((A0.out.2.1.since (S2.out.2.2.trans (HZ.out.2.trans s4))).take k)
        rw [LT.out] at he
        refine he.mono ?_
        rintro e v5 ⟨rfl, f5⟩
        rw [decide_eq_true rfl]
        have s5 := s4.step f5
        refine ⟨s5, ?_⟩
        repeat (refine sched_pure (v := ?_) rfl rfl ?_ ?_; rotate_left; (focus (intro Y hY; first | (refine (exec_tile (R0.out Y hY) sR rfl).trans ?_; with_reducible rfl) | (refine (exec_tile (R1.out Y hY) sR rfl).trans ?_; with_reducible rfl) | (have y0 := (HZ.out.1.since hY).four; go_simp; try with_reducible rfl))); go_simp; try go_bits)
        refine sched_end ?_
        go_wp2
        go_ret
        exact ⟨rfl, (S2.out.2.2.trans (HZ.out.2.trans s5)).below⟩
end Go.Proofs.Ytedckelfdkfkoaa
