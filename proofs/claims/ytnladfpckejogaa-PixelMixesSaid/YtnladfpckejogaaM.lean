/- Walks: the nearest colour. -/
import Derived.Test.YtnladfpckejogaaL
namespace Go.Proofs.Ytnladfpckejogaa
open Go.RowKit Go.Shelf
attribute [local go_sem] Oper.semAt_some

abbrev farCC (c d : Col) : Int := farC c.1 c.2.1 c.2.2.1 c.2.2.2 d.1 d.2.1 d.2.2.1 d.2.2.2
/-- how far the colour at a place is -/
def farAt (c : Col) (l : List Col) (i : Nat) : Int := match l[i]? with | some d => farCC c d | none => 0
/-- the place of the nearest one of the first k -/
def nearI (f : Nat → Int) : Nat → Int
  | 0 => -1
  | k + 1 => if nearI f k < 0 ∨ f k < f (nearI f k).toNat then k else nearI f k
theorem nearI_bd (f : Nat → Int) : ∀ k, -1 ≤ nearI f k ∧ nearI f k < k
  | 0 => by simp [nearI]
  | k + 1 => by
    have := nearI_bd f k
    unfold nearI
    split <;> omega

set_option maxRecDepth 100000 in
set_option maxHeartbeats 2000000 in
theorem nearest_any (c : Col) (a : Option Addr) (x : Nat) (l : List Col) (w : World) (hc : ByC c) (h : ColRow w a l) :
    Calls Try.prog 19 #[colV c, .slice a l.length x] w fun e w' => e = .returned (.int .i64 (nearI (farAt c l) l.length)) ∧ Below w.heap.size w w' := by
  have n1 := h.len
  unfold maxLen at n1
  generalize hm1 : l.length = m1 at *
  have A := Lib.hid (And.intro hm1 (And.intro h hc))
  clear hm1 h hc
  obtain ⟨c0, c1, c2, c3⟩ := c
  go_enter Try.func19, Try.ntmps19
  go_wp2
  generalize hX : World.alloc _ _ = X
  have x0 : Has X w.heap.size (.cells #[.int .u8 c0, .int .u8 c1, .int .u8 c2, .int .u8 c3] 27 (0, 0)) := by rw [← hX]; exact Has.new' (by simp)
  have bX : Below w.heap.size w X := by rw [← hX]; exact (Below.refl _ _).alloc (by simp) _
  clear hX
  go_loopg [5, 10] m1 (fun n b i wr => ∃ k : Nat, k ≤ m1 ∧ n = m1 - k ∧ i = .int .i64 k ∧ b = .int .i64 (nearI (farAt (c0, c1, c2, c3) l) k) ∧ Has wr w.heap.size (.cells #[.int .u8 c0, .int .u8 c1, .int .u8 c2, .int .u8 c3] 27 (0, 0)) ∧ Below w.heap.size w wr)
  case atStart => exact ⟨0, by omega, by omega, rfl, rfl, x0, bX⟩
  case round =>
    clear x0 bX
    obtain ⟨k, hk, hn, rfl, rfl, j0, hb⟩ := hrel
    by_cases hlt : k < m1
    · obtain ⟨hm1, h, hc⟩ := A.out
      obtain ⟨d, hd⟩ : ∃ c, l[k]? = some c := ⟨_, List.getElem?_eq_getElem (by omega)⟩
      obtain ⟨p, rfl, q⟩ := (h.below hb).at_ k d hd
      have hdb : ByC d := h.by_ d (List.mem_of_getElem? hd)
      obtain ⟨d0, d1, d2, d3⟩ := d
      have hfk : farAt (c0, c1, c2, c3) l k = farC c0 c1 c2 c3 d0 d1 d2 d3 := by unfold farAt; rw [hd]
      have nb := nearI_bd (farAt (c0, c1, c2, c3) l) k
      obtain ⟨be, hbe⟩ : ∃ be, nearI (farAt (c0, c1, c2, c3) l) k = be := ⟨_, rfl⟩
      rw [hbe] at nb
      rw [hbe]
      have e0 := (j0.alloc (.cells #[.int .u8 d0, .int .u8 d1, .int .u8 d2, .int .u8 d3] 27 (0, 0))).four
      have e1 := (Has.new wr (.cells #[.int .u8 d0, .int .u8 d1, .int .u8 d2, .int .u8 d3] 27 (0, 0))).four
      have bw := (hb.alloc hb.size (.cells #[.int .u8 d0, .int .u8 d1, .int .u8 d2, .int .u8 d3] 27 (0, 0)))
      have k0 := j0.alloc (.cells #[.int .u8 d0, .int .u8 d1, .int .u8 d2, .int .u8 d3] 27 (0, 0))
      by_cases hneg : be < 0
      · have hnx : nearI (farAt (c0, c1, c2, c3) l) (k + 1) = k := by unfold nearI; rw [hbe, if_pos (.inl hneg)]
        have B := Lib.hid (And.intro hn (And.intro hnx (And.intro k0 bw)))
        unfold ColAt at q
        simp only [] at q
        clear hn hnx hdb hfk hbe hd hm1 h hc j0 hb nb bw k0
        go_wp2_with (fail)
        refine wp_region_sched [(0, false), (1, false), (2, false), (3, false), (4, false), (6, false), (7, false), (8, false), (9, false), (10, false), (5, true), (11, true), (12, false), (13, false)] (fun _ => True) (by kernel_rfl) (by kernel_rfl) trivial ?_
        repeat (first | (refine sched_idle rfl rfl trivial ?_; go_simp) | (refine sched_pure (v := ?_) rfl rfl ?_ ?_; rotate_left; (focus (intro Y hY; go_simp; try with_reducible rfl)); go_simp; try go_bits))
        refine sched_end ?_
        go_wp2
        go_roundg (m1 - (k + 1))
        case measure => have := B.out.1; omega
        case rel => exact ⟨k + 1, hlt, rfl, rfl, by rw [B.out.2.1], B.out.2.2.1.drew, B.out.2.2.2.drew⟩
      · obtain ⟨b, rfl⟩ := Int.eq_ofNat_of_zero_le (show 0 ≤ be by omega)
        obtain ⟨g, hg⟩ : ∃ c, l[b]? = some c := ⟨_, List.getElem?_eq_getElem (by omega)⟩
        obtain ⟨p', hp, q2⟩ := (h.below hb).at_ b g hg
        cases hp
        have hgb : ByC g := h.by_ g (List.mem_of_getElem? hg)
        obtain ⟨g0, g1, g2, g3⟩ := g
        have hfb : farAt (c0, c1, c2, c3) l b = farC c0 c1 c2 c3 g0 g1 g2 g3 := by unfold farAt; rw [hg]
        have hS : Has (wr.alloc (.cells #[.int .u8 d0, .int .u8 d1, .int .u8 d2, .int .u8 d3] 27 (0, 0))) w.heap.size (.cells #[.int .u8 c0, .int .u8 c1, .int .u8 c2, .int .u8 c3] 27 (0, 0)) ∧ Has (wr.alloc (.cells #[.int .u8 d0, .int .u8 d1, .int .u8 d2, .int .u8 d3] 27 (0, 0))) wr.heap.size (.cells #[.int .u8 d0, .int .u8 d1, .int .u8 d2, .int .u8 d3] 27 (0, 0)) ∧ ColAt (wr.alloc (.cells #[.int .u8 d0, .int .u8 d1, .int .u8 d2, .int .u8 d3] 27 (0, 0))) (p.add (b * 4)) (g0, g1, g2, g3) :=
          ⟨k0, Has.new wr _, q2.below ((Below.refl _ _).alloc (Nat.le_refl _) _)⟩
        have hnx : nearI (farAt (c0, c1, c2, c3) l) (k + 1) = if farC c0 c1 c2 c3 d0 d1 d2 d3 < farC c0 c1 c2 c3 g0 g1 g2 g3 then (k : Int) else (b : Int) := by
          unfold nearI
          rw [hbe, Int.toNat_natCast, hfk, hfb]
          by_cases hlt2 : farC c0 c1 c2 c3 d0 d1 d2 d3 < farC c0 c1 c2 c3 g0 g1 g2 g3
          · rw [if_pos (.inr hlt2), if_pos hlt2]
          · rw [if_neg (by omega), if_neg hlt2]
        have hbm : b < m1 := by omega
        have D := Lib.hid (And.intro hc (And.intro hdb hgb))
        unfold ColAt at q
        simp only [] at q
        by_cases hlt2 : farC c0 c1 c2 c3 d0 d1 d2 d3 < farC c0 c1 c2 c3 g0 g1 g2 g3
        all_goals
          first | rw [if_pos hlt2] at hnx | rw [if_neg hlt2] at hnx
          have B := Lib.hid (And.intro hn (And.intro hnx (And.intro k0 (And.intro bw (And.intro hS trivial)))))
          clear hn hnx hc hdb hgb hfk hfb hbe hd hg hm1 h j0 hb nb bw k0 hS q2 hneg
        · go_wp2_with (fail)
          refine wp_region_sched [(0, false), (1, false), (2, false), (3, false), (4, false), (6, false), (7, false), (8, false), (9, false), (10, false), (5, true), (11, true), (12, false), (13, false)] (fun Y => Has Y w.heap.size (.cells #[.int .u8 c0, .int .u8 c1, .int .u8 c2, .int .u8 c3] 27 (0, 0)) ∧ Has Y wr.heap.size (.cells #[.int .u8 d0, .int .u8 d1, .int .u8 d2, .int .u8 d3] 27 (0, 0)) ∧ ColAt Y (p.add (b * 4)) (g0, g1, g2, g3)) (by kernel_rfl) (by kernel_rfl) B.out.2.2.2.2.1 ?_
          repeat (refine sched_pure (v := ?_) rfl rfl ?_ ?_; rotate_left; (focus (intro Y hY; have y0 := hY.1.four; have y1 := hY.2.1.four; have y2 := hY.2.2; unfold ColAt at y2; go_simp; try with_reducible rfl)); go_simp; try go_bits)
          refine sched_act rfl rfl ?_
          go_simp
          refine (far_any _ _ _ _ _ _ _ _ _ D.out.1.1 D.out.1.2.1 D.out.1.2.2.1 D.out.1.2.2.2 D.out.2.1.1 D.out.2.1.2.1 D.out.2.1.2.2.1 D.out.2.1.2.2.2).mono ?_
          rintro e w2 ⟨rfl, hb2⟩
          have S1 := And.intro (B.out.2.2.2.2.1.1.drew.below hb2 B.out.2.2.2.2.1.1.drew.lt) (And.intro (B.out.2.2.2.2.1.2.1.drew.below hb2 B.out.2.2.2.2.1.2.1.drew.lt) (B.out.2.2.2.2.1.2.2.drew.below hb2))
          refine ⟨S1, ?_⟩
          go_simp
          refine sched_act rfl rfl ?_
          go_simp
          refine (far_any _ _ _ _ _ _ _ _ _ D.out.1.1 D.out.1.2.1 D.out.1.2.2.1 D.out.1.2.2.2 D.out.2.2.1 D.out.2.2.2.1 D.out.2.2.2.2.1 D.out.2.2.2.2.2).mono ?_
          rintro e w3 ⟨rfl, hb3⟩
          have S2 := And.intro (S1.1.below hb3 S1.1.lt) (And.intro (S1.2.1.below hb3 S1.2.1.lt) (S1.2.2.below hb3))
          refine ⟨S2, ?_⟩
          go_simp
          repeat (refine sched_pure (v := ?_) rfl rfl ?_ ?_; rotate_left; (focus (intro Y hY; have y0 := hY.1.four; have y1 := hY.2.1.four; have y2 := hY.2.2; unfold ColAt at y2; go_simp; try with_reducible rfl)); go_simp; try go_bits)
          refine sched_end ?_
          have bz := B.out.2.2.2.1.drew.trans ((hb2.trans (hb3.mono hb2.size)).mono B.out.2.2.2.1.drew.size)
          have S3 := S2.1
          have T := Lib.hid (And.intro S3 bz)
          clear S1 S2 S3 bz hb2 hb3
          go_wp2
          go_roundg (m1 - (k + 1))
          case measure => have := B.out.1; omega
          case rel => exact ⟨k + 1, hlt, rfl, rfl, by rw [B.out.2.1], T.out.1, T.out.2⟩
        · go_wp2_with (fail)
          refine wp_region_sched [(0, false), (1, false), (2, false), (3, false), (4, false), (6, false), (7, false), (8, false), (9, false), (10, false), (5, true), (11, true), (12, false), (13, false)] (fun Y => Has Y w.heap.size (.cells #[.int .u8 c0, .int .u8 c1, .int .u8 c2, .int .u8 c3] 27 (0, 0)) ∧ Has Y wr.heap.size (.cells #[.int .u8 d0, .int .u8 d1, .int .u8 d2, .int .u8 d3] 27 (0, 0)) ∧ ColAt Y (p.add (b * 4)) (g0, g1, g2, g3)) (by kernel_rfl) (by kernel_rfl) B.out.2.2.2.2.1 ?_
          repeat (refine sched_pure (v := ?_) rfl rfl ?_ ?_; rotate_left; (focus (intro Y hY; have y0 := hY.1.four; have y1 := hY.2.1.four; have y2 := hY.2.2; unfold ColAt at y2; go_simp; try with_reducible rfl)); go_simp; try go_bits)
          refine sched_act rfl rfl ?_
          go_simp
          refine (far_any _ _ _ _ _ _ _ _ _ D.out.1.1 D.out.1.2.1 D.out.1.2.2.1 D.out.1.2.2.2 D.out.2.1.1 D.out.2.1.2.1 D.out.2.1.2.2.1 D.out.2.1.2.2.2).mono ?_
          rintro e w2 ⟨rfl, hb2⟩
          have S1 := And.intro (B.out.2.2.2.2.1.1.drew.below hb2 B.out.2.2.2.2.1.1.drew.lt) (And.intro (B.out.2.2.2.2.1.2.1.drew.below hb2 B.out.2.2.2.2.1.2.1.drew.lt) (B.out.2.2.2.2.1.2.2.drew.below hb2))
          refine ⟨S1, ?_⟩
          go_simp
          refine sched_act rfl rfl ?_
          go_simp
          refine (far_any _ _ _ _ _ _ _ _ _ D.out.1.1 D.out.1.2.1 D.out.1.2.2.1 D.out.1.2.2.2 D.out.2.2.1 D.out.2.2.2.1 D.out.2.2.2.2.1 D.out.2.2.2.2.2).mono ?_
          rintro e w3 ⟨rfl, hb3⟩
          have S2 := And.intro (S1.1.below hb3 S1.1.lt) (And.intro (S1.2.1.below hb3 S1.2.1.lt) (S1.2.2.below hb3))
          refine ⟨S2, ?_⟩
          go_simp
          repeat (refine sched_pure (v := ?_) rfl rfl ?_ ?_; rotate_left; (focus (intro Y hY; have y0 := hY.1.four; have y1 := hY.2.1.four; have y2 := hY.2.2; unfold ColAt at y2; go_simp; try with_reducible rfl)); go_simp; try go_bits)
          refine sched_end ?_
          have bz := B.out.2.2.2.1.drew.trans ((hb2.trans (hb3.mono hb2.size)).mono B.out.2.2.2.1.drew.size)
          have S3 := S2.1
          have T := Lib.hid (And.intro S3 bz)
          clear S1 S2 S3 bz hb2 hb3
          go_wp2
          go_roundg (m1 - (k + 1))
          case measure => have := B.out.1; omega
          case rel => exact ⟨k + 1, hlt, rfl, rfl, by rw [B.out.2.1], T.out.1, T.out.2⟩
    · obtain rfl : k = m1 := by omega
      have T := Lib.hid (And.intro j0 hb)
      clear j0 hb
      go_wp2
      go_ret
      exact ⟨rfl, T.out.2⟩
end Go.Proofs.Ytnladfpckejogaa
