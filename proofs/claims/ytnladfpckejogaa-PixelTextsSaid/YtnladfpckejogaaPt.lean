/- Words and texts of colours, and colours of words and texts. -/
import Derived.Test.YtnladfpckejogaaO
import Derived.Test.YtnladfpckejogaaT
namespace Go.Proofs.Ytnladfpckejogaa
open Go.RowKit Go.Shelf
attribute [local go_sem] Oper.semAt_some
attribute [local go_sem 2000] run_col
attribute [local go_sem] colB_self

/-- a row of one-cell values -/
structure OneRow {α : Type} (f : α → Value) (W : World) (ad : Option Addr) (l : List α) : Prop where
  len : l.length ≤ maxLen
  at_ : ∀ i c, l[i]? = some c → ∃ a, ad = some a ∧ W.cell? (a.add i) = some (f c)
theorem OneRow.below {α : Type} {f : α → Value} {W W' : World} {ad : Option Addr} {l : List α} (h : OneRow f W ad l) (hb : Below W.heap.size W W') : OneRow f W' ad l :=
  ⟨h.len, fun i c hi => let ⟨a, e, hc⟩ := h.at_ i c hi; ⟨a, e, (hb.cell (cell_lt hc)).trans hc⟩⟩

set_option maxRecDepth 100000 in
set_option maxHeartbeats 2000000 in
theorem texts_any (a0 a1 a2 : Option Addr) (x0 x1 x2 : Nat) (l : List Col) (zs : List Int) (ss : List ByteArray) (w : World) (h0 : ColRow w a0 l) (h1 : OneRow (Value.int .u32) w a1 zs) (h2 : OneRow Value.string w a2 ss) (hz : ∀ z ∈ zs, 0 ≤ z ∧ z < 4294967296) :
    Calls Try.prog 3 #[.slice a0 l.length x0, .slice a1 zs.length x1, .slice a2 ss.length x2] w fun e w' => e = .returned (.bool true) ∧ Below w.heap.size w w' := by
  have n0 := h0.len
  have n1 := h1.len
  have n2 := h2.len
  unfold maxLen at n0 n1 n2
  generalize hm0 : l.length = k0 at *
  generalize hm1 : zs.length = k1 at *
  generalize hm2 : ss.length = k2 at *
  have A := Lib.hid (And.intro (And.intro hm0 h0) (And.intro (And.intro hm1 (And.intro h1 hz)) (And.intro hm2 h2)))
  clear hm0 hm1 hm2 h0 h1 h2 hz
  go_enter Try.func3, Try.ntmps3
  go_wp2_with (fail)
  refine (wakes_any _).mono ?_
  rintro e w1 ⟨rfl, B1⟩
  go_wp2_with (fail)
  go_loopg [21] k0 (fun n i wr => ∃ k : Nat, k ≤ k0 ∧ n = k0 - k ∧ i = .int .i64 k ∧ Below w.heap.size w wr)
  case atStart => exact ⟨0, by omega, by omega, rfl, B1⟩
  case round =>
    clear B1
    obtain ⟨k, hk, hn, rfl, hb⟩ := hrel
    by_cases hlt : k < k0
    · obtain ⟨hm0, h0⟩ := A.out.1
      obtain ⟨d, hd⟩ : ∃ c, l[k]? = some c := ⟨_, List.getElem?_eq_getElem (by omega)⟩
      obtain ⟨p, rfl, q⟩ := (h0.below hb).at_ k d hd
      have hdb : ByC d := h0.by_ d (List.mem_of_getElem? hd)
      obtain ⟨d0, d1, d2, d3⟩ := d
      unfold ColAt at q
      simp only [] at q
      have j := Has.new wr (.cells #[.int .u8 d0, .int .u8 d1, .int .u8 d2, .int .u8 d3] 27 (0, 0))
      have bw := hb.alloc hb.size (.cells #[.int .u8 d0, .int .u8 d1, .int .u8 d2, .int .u8 d3] 27 (0, 0))
      have N := Lib.hid hn
      clear hm0 h0 hd hb hn
      by_cases h12 : k < 12
      · have e12 : ((k : Int) < 12) = True := eq_true (by omega)
        go_wp2_with (fail)
        clear q
        generalize hU : World.alloc _ _ = U at *
        clear hU
        have L0 : ∀ {w'}, Below U.drew.heap.size U.drew w' → w'.cell? ⟨wr.heap.size, 0, none⟩ = some (.int .u8 d0) ∧ w'.cell? ⟨wr.heap.size, 1, none⟩ = some (.int .u8 d1) ∧ w'.cell? ⟨wr.heap.size, 2, none⟩ = some (.int .u8 d2) ∧ w'.cell? ⟨wr.heap.size, 3, none⟩ = some (.int .u8 d3) := fun hB => (j.drew.below hB j.drew.lt).four
        refine wp_region_fresh 15 [(15, false)]
          [(fun _ => .int .i64 (k : Int), none),
           (fun _ => .bool true, none),
           (fun _ => .bool true, none),
           (fun _ => .agg #[.int .u8 d0, .int .u8 d1, .int .u8 d2, .int .u8 d3], none),
           (fun _ => .int .u32 (packZ d0 d1 d2 d3), none),
           (fun _ => .agg #[.int .u8 d0, .int .u8 d1, .int .u8 d2, .int .u8 d3], none),
           (fun _ => .int .u32 (packZ d0 d1 d2 d3), none),
           (fun _ => .bool false, none),
           (fun _ => .bool false, none),
           (fun _ => .agg #[.int .u8 d0, .int .u8 d1, .int .u8 d2, .int .u8 d3], none),
           (fun _ => .string (textS d0 d1 d2 d3), none),
           (fun _ => .agg #[.int .u8 d0, .int .u8 d1, .int .u8 d2, .int .u8 d3], none),
           (fun _ => .string (textS d0 d1 d2 d3), none),
           (fun _ => .bool false, none),
           (fun _ => .bool false, none)] (fun _ _ => True) (by kernel_rfl) (by kernel_rfl) rfl ?_
        intro z
        refine fresh_pure rfl rfl (fun w' hB => by go_simp) ?_
        go_simp
        refine fresh_pure rfl rfl (fun w' hB => by go_simp) ?_
        go_simp
        refine fresh_pure rfl rfl (fun w' hB => by go_simp) ?_
        go_simp
        refine fresh_pure rfl rfl (fun w' hB => by have l0 := L0 hB; go_simp) ?_
        go_simp
        refine fresh_call rfl rfl (fun w' hB hA => by go_simp) (fun w' hB hA => pack_any d0 d1 d2 d3 w' hdb.1 hdb.2.1 hdb.2.2.1 hdb.2.2.2) ?_
        go_simp
        refine fresh_pure rfl rfl (fun w' hB => by have l0 := L0 hB; go_simp) ?_
        go_simp
        refine fresh_call rfl rfl (fun w' hB hA => by go_simp) (fun w' hB hA => rpack_any d0 d1 d2 d3 w' hdb.1 hdb.2.1 hdb.2.2.1 hdb.2.2.2) ?_
        go_simp
        refine fresh_pure rfl rfl (fun w' hB => by go_simp) ?_
        go_simp
        refine fresh_pure rfl rfl (fun w' hB => by go_simp) ?_
        go_simp
        refine fresh_pure rfl rfl (fun w' hB => by have l0 := L0 hB; go_simp) ?_
        go_simp
        refine fresh_call rfl rfl (fun w' hB hA => by go_simp) (fun w' hB hA => text_any d0 d1 d2 d3 w' hdb.1 hdb.2.1 hdb.2.2.1 hdb.2.2.2) ?_
        go_simp
        refine fresh_pure rfl rfl (fun w' hB => by have l0 := L0 hB; go_simp) ?_
        go_simp
        refine fresh_call rfl rfl (fun w' hB hA => by go_simp) (fun w' hB hA => rtext_any d0 d1 d2 d3 w' hdb.1 hdb.2.1 hdb.2.2.1 hdb.2.2.2) ?_
        go_simp
        refine fresh_pure rfl rfl (fun w' hB => by go_simp) ?_
        go_simp
        refine fresh_pure rfl rfl (fun w' hB => by go_simp) ?_
        go_simp
        refine fresh_end fun V hB hA hD => ?_
        have BF := bw.drew.trans (hB.mono bw.drew.size)
        clear L0 j bw hB hA hD
        go_simp
        repeat (refine sched_pure (v := ?_) rfl rfl ?_ ?_; rotate_left; (focus (intro Y hY; go_simp; try with_reducible rfl)); go_simp; try go_bits)
        refine sched_end ?_
        go_wp2
        go_roundg (k0 - (k + 1))
        case measure => have := N.out; omega
        case rel => exact ⟨k + 1, hlt, rfl, rfl, BF⟩
      · have e12 : ((k : Int) < 12) = False := eq_false (by omega)
        go_wp2_with (fail)
        refine wp_region_sched [(0, false), (1, false), (2, false), (3, false), (5, false), (4, true), (6, true), (7, false), (8, false), (9, false), (11, false), (10, true), (12, true), (13, false), (14, false), (15, false)] (fun _ => True) (by kernel_rfl) (by kernel_rfl) trivial ?_
        repeat (first | (refine sched_idle rfl rfl trivial ?_; go_simp) | (refine sched_pure (v := ?_) rfl rfl ?_ ?_; rotate_left; (focus (intro Y hY; go_simp; try with_reducible rfl)); go_simp; try go_bits))
        refine sched_end ?_
        go_wp2
        go_roundg (k0 - (k + 1))
        case measure => have := N.out; omega
        case rel => exact ⟨k + 1, hlt, rfl, rfl, bw.drew⟩
    obtain rfl : k = k0 := by omega
    have B1 := hb
    clear hb hn
    obtain ⟨wk, rfl⟩ : ∃ wk : World, wk = wr := ⟨_, rfl⟩
    go_wp2_with (fail)
    go_loopg [45] k1 (fun n i wr => ∃ j : Nat, j ≤ k1 ∧ n = k1 - j ∧ i = .int .i64 j ∧ Below w.heap.size w wr)
    case atStart => exact ⟨0, by omega, by omega, rfl, B1⟩
    case round =>
      clear B1
      obtain ⟨j, hj, hn, rfl, hb⟩ := hrel
      by_cases hlt1 : j < k1
      · obtain ⟨hm1, h1, hz⟩ := A.out.2.1
        obtain ⟨z, hzj⟩ : ∃ c, zs[j]? = some c := ⟨_, List.getElem?_eq_getElem (by omega)⟩
        obtain ⟨p, rfl, q⟩ := (h1.below hb).at_ j z hzj
        obtain ⟨z0, z1⟩ := hz z (List.mem_of_getElem? hzj)
        have N := Lib.hid (And.intro hn hb)
        clear hm1 h1 hz hzj hn hb
        by_cases h12 : j < 12
        · have e12 : ((j : Int) < 12) = True := eq_true (by omega)
          go_wp2_with (fail)
          refine (unpack_any z _ z0 z1).mono ?_
          rintro e w2 ⟨rfl, b2⟩
          have vb := unpack_by z0 z1
          have B2 := N.out.2.trans (b2.mono N.out.2.size)
          clear b2
          go_wp2_with (fail)
          refine (rpack_any _ _ _ _ _ vb.1 vb.2.1 vb.2.2.1 vb.2.2.2).mono ?_
          rintro e w3 ⟨he, b3⟩
          rw [pack_unpack] at he
          subst he
          have B3 := Lib.hid (B2.trans (b3.mono B2.size))
          clear b3 B2
          go_wp2
          go_roundg (k1 - (j + 1))
          case measure => have := N.out.1; omega
          case rel => exact ⟨j + 1, hlt1, rfl, rfl, B3.out⟩
        · have e12 : ((j : Int) < 12) = False := eq_false (by omega)
          go_wp2
          go_roundg (k1 - (j + 1))
          case measure => have := N.out.1; omega
          case rel => exact ⟨j + 1, hlt1, rfl, rfl, N.out.2⟩
      obtain rfl : j = k1 := by omega
      have B1 := hb
      clear hb hn
      obtain ⟨wk2, rfl⟩ : ∃ wk2 : World, wk2 = wr := ⟨_, rfl⟩
      go_wp2_with (fail)
      go_loopg [62] k2 (fun n i wr => ∃ t : Nat, t ≤ k2 ∧ n = k2 - t ∧ i = .int .i64 t ∧ Below w.heap.size w wr)
      case atStart => exact ⟨0, by omega, by omega, rfl, B1⟩
      case round =>
        clear B1
        obtain ⟨t, htk, hn, rfl, hb⟩ := hrel
        by_cases hlt2 : t < k2
        · obtain ⟨hm2, h2⟩ := A.out.2.2
          obtain ⟨s, hst⟩ : ∃ c, ss[t]? = some c := ⟨_, List.getElem?_eq_getElem (by omega)⟩
          obtain ⟨p, rfl, q⟩ := (h2.below hb).at_ t s hst
          have N := Lib.hid (And.intro hn hb)
          clear hm2 h2 hst hn hb
          by_cases h12 : t = 12
          · have e12 : ((t : Int) == 12) = true := by rw [h12]; rfl
            clear h12
            go_wp2
            go_ret
            exact ⟨rfl, N.out.2⟩
          · have e12 : ((t : Int) == 12) = false := by rw [Bool.eq_false_iff]; simp; omega
            clear h12
            go_wp2_with (fail)
            refine (read_any s _).mono ?_
            rintro e w2 ⟨he, b2⟩
            have B2 := N.out.2.trans (b2.mono N.out.2.size)
            clear b2
            cases hv : readV s with
            | none =>
              rw [hv] at he
              unfold readR at he
              simp only [] at he
              subst he
              have V := Lib.hid (And.intro hv B2)
              clear hv B2
              go_wp2_with (fail)
              generalize hU : World.alloc _ _ = U
              have u0 : Has U w2.heap.size (.cells #[.int .u8 0, .int .u8 0, .int .u8 0, .int .u8 0] 27 (0, 0)) := by rw [← hU]; exact Has.new _ _
              have B3 : Below w.heap.size w U := by rw [← hU]; exact V.out.2.alloc V.out.2.size _
              clear hU
              refine (rread_any s _).mono ?_
              rintro e w4 ⟨he, b4⟩
              rw [V.out.1] at he
              unfold rreadR at he
              simp only [] at he
              subst he
              have u1 := ((u0.below b4 u0.lt).alloc (.cells #[.int .u8 0, .int .u8 0, .int .u8 0, .int .u8 0] 27 (0, 0))).four
              have B4 := Lib.hid ((B3.trans (b4.mono B3.size)).alloc (B3.trans (b4.mono B3.size)).size (.cells #[.int .u8 0, .int .u8 0, .int .u8 0, .int .u8 0] 27 (0, 0)))
              clear u0 b4 B3
              go_wp2
              go_roundg (k2 - (t + 1))
              case measure => have := N.out.1; omega
              case rel => exact ⟨t + 1, hlt2, rfl, rfl, B4.out⟩
            | some y =>
              rw [hv] at he
              unfold readR at he
              simp only [] at he
              subst he
              have V := Lib.hid (And.intro hv B2)
              clear hv B2
              go_wp2_with (fail)
              generalize hU : World.alloc _ _ = U
              have u0 : Has U w2.heap.size (.cells #[.int .u8 (y / 16777216), .int .u8 (y / 65536 % 256), .int .u8 (y / 256 % 256), .int .u8 (y % 256)] 27 (0, 0)) := by rw [← hU]; exact Has.new _ _
              have B3 : Below w.heap.size w U := by rw [← hU]; exact V.out.2.alloc V.out.2.size _
              clear hU
              refine (rread_any s _).mono ?_
              rintro e w4 ⟨he, b4⟩
              rw [V.out.1] at he
              unfold rreadR at he
              simp only [] at he
              subst he
              have u1 := ((u0.below b4 u0.lt).alloc (.cells #[.int .u8 (y / 16777216), .int .u8 (y / 65536 % 256), .int .u8 (y / 256 % 256), .int .u8 (y % 256)] 27 (0, 0))).four
              have B4 := Lib.hid ((B3.trans (b4.mono B3.size)).alloc (B3.trans (b4.mono B3.size)).size (.cells #[.int .u8 (y / 16777216), .int .u8 (y / 65536 % 256), .int .u8 (y / 256 % 256), .int .u8 (y % 256)] 27 (0, 0)))
              clear u0 b4 B3
              go_wp2
              go_roundg (k2 - (t + 1))
              case measure => have := N.out.1; omega
              case rel => exact ⟨t + 1, hlt2, rfl, rfl, B4.out⟩
        · go_wp2
          go_ret
          exact ⟨rfl, hb⟩
end Go.Proofs.Ytnladfpckejogaa
