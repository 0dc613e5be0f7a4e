/- Walks: a pixel of a tile; a tile with places of a colour. -/
import Derived.Test.YtedckelfdkfkoaaC
namespace Go.Proofs.Ytedckelfdkfkoaa
open Go.RowKit Go.Shelf
attribute [local go_sem] Oper.semAt_some
attribute [local go_sem] round_fn round_depth wide_fn wide_depth
attribute [local go_sem 2000] run_col run_tile
attribute [local go_sem ↓] zero25 build25 build176z build176 load25 store25
attribute [local go_sem] rowAt_alloc rowFree_alloc rowAt_drew rowFree_drew zeroA_size zc176 zeroA_ones blkOf_ptr aggOf_agg

theorem newT (c : Col) : foldT (fun p => (p, c)) blankT placesL = List.replicate 64 c := by kernel_rfl

/-- what At tells -/
def atV (T : List Col) (x y : Int) : Col × Int := if isB x y = true then (atT T (y * 8 + x).toNat, 0) else (z0, 140)
abbrev atR (r : Col × Int) : Value := .tuple #[colV r.1, .int .i64 r.2]
theorem atV_yes {T : List Col} {a b : Nat} (ha : a < 8) (hb : b < 8) : atV T a b = (atT T (b * 8 + a), 0) := by unfold atV; rw [if_pos (isB_nat ha hb)]; congr 1
theorem atV_no {T : List Col} {x y : Int} (h : isB x y = false) : atV T x y = (z0, 140) := by unfold atV; rw [h]; rfl

set_option maxRecDepth 100000 in
set_option maxHeartbeats 400000 in
theorem at_any (T : List Col) (x y : Int) (w : World) (hT : T.length = 64) :
    Calls Try.prog 34 #[.agg (tileA T), .int .i64 x, .int .i64 y] w fun e w' => e = .returned (atR (atV T x y)) ∧ Below w.heap.size w w' := by
  cases hB : isB x y with
  | false =>
    have e : atV T x y = (z0, 140) := atV_no hB
    rw [e]
    have HB := Lib.hid hB
    generalize tileA T = A
    clear e hB hT
    go_enter Try.func34, Try.ntmps34
    go_wp2_with (go_at_call 131; refine (is_any _ _ _).mono ?_; rintro e w' ⟨he, rfl⟩; rw [HB.out] at he; subst he)
    exact bodyPost_ret (v := atR (z0, 140)) (by simp [results, Try.f34, go_sem, z0]) rfl ⟨rfl, ((Below.refl _ _).alloc (Nat.le_refl _) _).alloc (by simp) _⟩
  | true =>
    obtain ⟨a, b, ha, hb, rfl, rfl⟩ := isB_true hB
    rw [atV_yes ha hb]
    have HB := Lib.hid hB
    have f := tile_at (T := T) (k := b * 8 + a) (by omega)
    generalize atT T (b * 8 + a) = c at *
    generalize tileA T = A at *
    clear hB hT
    go_enter Try.func34, Try.ntmps34
    go_wp2_with (go_at_call 131; refine (is_any _ _ _).mono ?_; rintro e w' ⟨he, rfl⟩; rw [HB.out] at he; subst he)
    exact bodyPost_ret (v := atR (c, 0)) (by simp [results, Try.f34, go_sem]) rfl ⟨rfl, ((Below.refl _ _).alloc (Nat.le_refl _) _).alloc (by simp) _⟩

/-- what With comes to -/
def withT (c : Col) : List Col → List (Int × Int) → Option (List Col)
  | T, [] => some T
  | T, p :: l => if isB p.1 p.2 = true then withT c (putT T p.1 p.2 c) l else none
def withR : Option (List Col) → Value
  | some T => .tuple #[.agg (tileA T), .int .i64 0]
  | none => .tuple #[.agg zeroA, .int .i64 140]
theorem withT_length {c : Col} : ∀ {l : List (Int × Int)} {T T' : List Col}, withT c T l = some T' → T'.length = T.length
  | [], T, T', h => by cases h; rfl
  | p :: l, T, T', h => by
    unfold withT at h
    split at h
    · rw [withT_length h, putT_length]
    · cases h
/-- two results, the first a tile in a block -/
theorem res25i {fn : Func} {p q : Tmp} (h : fn.results = #[.cell p 25, .tmp q]) (tmps : Array Value) (w : World) (g : Nat) (T : TypeId) (A : Array Value) (z : Nat × Nat) (v : Value) (hp : tmps.getD p undef = .pointer (some ⟨g, 0, none⟩)) (hq : tmps.getD q undef = v) (hg : Has w g (.cells A T z)) (hs : A.size = 256) :
    (results fn tmps).run Try.prog w = .ok (.tuple #[.agg A, v]) w := by
  have hp' : tmps[p]?.getD undef = .pointer (some ⟨g, 0, none⟩) := by simpa using hp
  have hq' : tmps[q]?.getD undef = v := by simpa using hq
  have hl : (loadVar 25 ⟨g, 0, none⟩).run Try.prog w = .ok (.agg A) w := run_loadVar_row w g T 25 A z _ hg Try.underlying25 rfl (by rw [size25, hs])
  simp [results, h, hp', hq', asAddr, hl]

set_option maxRecDepth 100000 in
set_option maxHeartbeats 1000000 in
theorem with_any (T : List Col) (c : Col) (ad : Option Addr) (cap : Nat) (l : List (Int × Int)) (w : World) (hT : T.length = 64) (hl : PtRow w ad l) :
    Calls Try.prog 35 #[.agg (tileA T), colV c, .slice ad l.length cap] w fun e w' => e = .returned (withR (withT c T l)) ∧ Below w.heap.size w w' := by
  have n1 := hl.len
  unfold maxLen at n1
  generalize hm1 : l.length = m1 at *
  obtain ⟨R, hR⟩ : ∃ R, withT c T l = R := ⟨_, rfl⟩
  rw [hR]
  have hs : (tileA T).size = 256 := by rw [tileA_size, hT]
  have ho := onesB_tile T
  have A0 := Lib.hid (And.intro hm1 (And.intro hl (And.intro hR hT)))
  obtain ⟨c0, c1, c2, c3⟩ := c
  generalize hA : tileA T = A at *
  have HA := Lib.hid hA
  clear hm1 hl hR hT hA
  have hfw := build_fold A hs
  go_enter Try.func35, Try.ntmps35
  go_wp2
  clear hfw
  generalize hX : World.alloc _ _ = X
  have sz : X.heap.size = w.heap.size + 4 := by rw [← hX]; simp
  have x1 : Has X (w.heap.size + 1) (.cells #[.int .u8 c0, .int .u8 c1, .int .u8 c2, .int .u8 c3] 23 (0, 0)) := by rw [← hX]; exact ((Has.new' (by simp)).alloc _).alloc _
  have x2 : Has X (w.heap.size + 1 + 1) (.cells zeroA 25 (0, 0)) := by rw [← hX]; exact (Has.new' (by simp)).alloc _
  have x3 : Has X (w.heap.size + 1 + 1 + 1) (.cells A 176 (0, 0)) := by rw [← hX]; exact Has.new' (by simp)
  have b0 : Below w.heap.size w X := by rw [← hX]; repeat (first | exact Below.refl _ _ | refine Below.alloc ?_ (by simp <;> omega) _)
  rw [← HA.out] at x3
  clear hX
  go_loopg [19] m1 (fun n i wr => ∃ (k : Nat) (T' : List Col), k ≤ m1 ∧ n = m1 - k ∧ i = .int .i64 k ∧ T'.length = 64 ∧ withT (c0, c1, c2, c3) T' (l.drop k) = R ∧ Grew [w.heap.size + 1 + 1 + 1] X wr ∧ Has wr (w.heap.size + 1 + 1 + 1) (.cells (tileA T') 176 (0, 0)))
  case atStart => exact ⟨0, T, by omega, by omega, rfl, A0.out.2.2.2, A0.out.2.2.1, Grew.refl _ _, x3⟩
  case round =>
    obtain ⟨k, T', hk, hn, rfl, hT', hR, hG, hF⟩ := hrel
    have bw : Below w.heap.size w wr := b0.trans (hG.below (by omega) (by simp; omega))
    have y1 := x1.grew hG (by simp <;> omega)
    have y2 := x2.grew hG (by simp <;> omega)
    by_cases hlt : k < m1
    · obtain ⟨hm1, hl, _, _⟩ := A0.out
      obtain ⟨p, hp⟩ : ∃ p, l[k]? = some p := ⟨_, List.getElem?_eq_getElem (by omega)⟩
      obtain ⟨a, rfl, q⟩ := (hl.below bw).at_ k p hp
      have qa := q.1
      have qb := q.2
      rw [List.drop_eq_getElem_cons (by omega), show l[k]'(by omega) = p by rw [List.getElem?_eq_getElem (by omega)] at hp; exact Option.some.inj hp] at hR
      unfold withT at hR
      have z1 := (y1.alloc (.cells #[.int .i64 p.1, .int .i64 p.2] 43)).four
      have wl := y2.lt
      have B := Lib.hid (And.intro hm1 (And.intro hl (And.intro hn (And.intro hT' (And.intro hG (And.intro hF (And.intro y2 (And.intro sz (And.intro b0 hR)))))))))
      clear hm1 hl hn hT' hG hF y2 y1 q hp x1 x2 x3 sz b0 bw hR
      cases hB : isB p.1 p.2 with
      | true =>
        have HB := Lib.hid hB
        clear hB
        go_wp2_with (fail)
        refine (put_any T' _ _ _ (c0, c1, c2, c3) _ B.out.2.2.2.1 (B.out.2.2.2.2.2.1.alloc _)).mono ?_
        rintro e w2 ⟨he, h1, h2⟩
        rw [HB.out] at he
        subst he
        have H2 := Lib.hid (And.intro h1 h2)
        clear h1 h2 z1 wl qa qb
        go_wp2
        obtain ⟨hm1, hl, hn, hT', hG, hF, y2, sz, b0, hR⟩ := B.out
        go_roundg (m1 - (k + 1))
        case measure => omega
        case rel =>
          rw [HB.out, if_pos rfl] at hR
          refine ⟨k + 1, _, hlt, rfl, by go_num, ?_, hR, (hG.alloc _).trans H2.out.2, H2.out.1⟩
          rw [putT_length, hT']
      | false =>
        have HB := Lib.hid hB
        clear hB
        go_wp2_with (fail)
        refine (put_any T' _ _ _ (c0, c1, c2, c3) _ B.out.2.2.2.1 (B.out.2.2.2.2.2.1.alloc _)).mono ?_
        rintro e w2 ⟨he, h1, h2⟩
        rw [HB.out] at he
        subst he
        obtain ⟨hm1, hl, hn, hT', hG, hF, y2, sz, b0, hR⟩ := B.out
        rw [HB.out] at hR
        subst hR
        have u2 := (y2.alloc (.cells #[.int .i64 p.1, .int .i64 p.2] 43)).grew h2 (by simp)
        have e1 := u2.row
        have e2 := u2.rowFree
        have bz : Below w.heap.size w w2 := (b0.trans (hG.below (by omega) (by simp; omega))).alloc (b0.trans (hG.below (by omega) (by simp; omega))).size _ |>.trans (h2.below (by have := hG.size; simp; omega) (by simp; omega))
        have H2 := Lib.hid (And.intro h1 (And.intro h2 (And.intro u2 bz)))
        clear h1 h2 z1 wl qa qb hm1 hl hn hT' hG hF y2 sz b0 u2 bz
        go_wp2
        refine bodyPost_ret (v := withR none) (res25i Try.results35 _ _ (w.heap.size + 1 + 1) 25 zeroA (0, 0) _ rfl rfl (H2.out.2.2.1.setRow zeroA) zeroA_size) rfl ⟨rfl, below_setRow H2.out.2.2.2 (by omega) _⟩
    · obtain rfl : k = m1 := by omega
      have hs' : (tileA T').size = 256 := by rw [tileA_size, hT']
      have ho' := onesB_tile T'
      rw [List.drop_eq_nil_of_le (by rw [A0.out.1]; exact Nat.le_refl _)] at hR
      have hR' : some T' = R := hR
      subst hR'
      have e1 := hF.row
      have e2 := y2.row
      have e3 := y2.rowFree
      have H2 := Lib.hid (And.intro y2 (And.intro hF bw))
      clear hn hT' hR hG hF y1 y2 x1 x2 x3 b0 bw
      have HT := Lib.hid (rfl : tileA T' = tileA T')
      generalize hA' : tileA T' = A' at *
      have HA' := Lib.hid hA'
      clear hA' HT
      go_wp2
      refine bodyPost_ret (v := .tuple #[.agg A', .int .i64 0]) (res25i Try.results35 _ _ (w.heap.size + 1 + 1) 25 A' (0, 0) _ rfl rfl (H2.out.1.setRow A') hs') rfl ⟨by rw [← HA'.out]; rfl, below_setRow H2.out.2.2 (by omega) _⟩
end Go.Proofs.Ytedckelfdkfkoaa
