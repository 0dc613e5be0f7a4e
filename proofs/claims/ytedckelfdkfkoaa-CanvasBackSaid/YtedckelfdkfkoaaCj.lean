/- Walks: the points of a canvas; where two canvases differ. -/
import Derived.Test.YtedckelfdkfkoaaCb
import Derived.Test.YtedckelfdkfkoaaTa
import Derived.Test.YtedckelfdkfkoaaKr
import Derived.OwnWalkIn
import Derived.Laws.EntriesVeiled
import Derived.RangeFuncBox
import Derived.Test.YtedckelfdkfkoaaPc
import Derived.Laws.AppendOwn
namespace Go.Proofs.Ytedckelfdkfkoaa
open Go.RowKit Go.Shelf
attribute [local go_sem] Oper.semAt_some
attribute [local go_sem] round_fn round_depth wide_fn wide_depth
attribute [local go_sem 2000] run_col run_tile
attribute [local go_sem ↓] zero25 build25 build176z build176 load25 store25
attribute [local go_sem] rowAt_alloc rowFree_alloc rowAt_drew rowFree_drew zeroA_size zc176 zeroA_ones blkOf_ptr aggOf_agg

/-! ### The points, row by row -/
def ptsL (m n : Nat) : List (Int × Int) := (List.range (n * m)).map fun k => (((k % m : Nat) : Int), ((k / m : Nat) : Int))
abbrev encA (p : Int × Int) : Array Value := #[.agg #[.int .i64 p.1, .int .i64 p.2]]
theorem ptsL_length (m n : Nat) : (ptsL m n).length = n * m := by simp [ptsL]
theorem ptsL_mem {m n : Nat} {x : Int × Int} (h : x ∈ ptsL m n) : ∃ a b : Nat, a < m ∧ b < n ∧ x = ((a : Int), (b : Int)) := by
  obtain ⟨k, hk, rfl⟩ := List.mem_map.1 h
  rw [List.mem_range] at hk
  have hm : 0 < m := by
    rcases Nat.eq_zero_or_pos m with rfl | h
    · simp at hk
    · exact h
  exact ⟨k % m, k / m, Nat.mod_lt _ hm, by rw [Nat.div_lt_iff_lt_mul hm]; exact hk, rfl⟩
theorem ptsL_at {m n a b : Nat} (ha : a < m) (hb : b < n) : (ptsL m n)[b * m + a]? = some ((a : Int), (b : Int)) := by
  have h1 : b * m + a < n * m := by
    have : (b + 1) * m ≤ n * m := Nat.mul_le_mul_right _ hb
    rw [Nat.add_mul, Nat.one_mul] at this; omega
  have e1 : (b * m + a) % m = a := by rw [Nat.add_comm, Nat.add_mul_mod_self_right]; exact Nat.mod_eq_of_lt ha
  have e2 : (b * m + a) / m = b := by rw [Nat.add_comm, Nat.add_mul_div_right _ _ (by omega), Nat.div_eq_of_lt ha]; omega
  simp only [ptsL, List.getElem?_map, List.getElem?_range h1, Option.map_some, e1, e2]
theorem ptsL_round {m n : Nat} {pre : List (Int × Int)} {x : Int × Int} (h : pre ++ [x] <+: ptsL m n) : ∃ a b : Nat, a < m ∧ b < n ∧ x = ((a : Int), (b : Int)) ∧ pre.length < n * m := by
  obtain ⟨h1, h2⟩ := snoc_prefix h
  have hlt : pre.length < n * m := by rw [← ptsL_length]; exact (List.getElem?_eq_some_iff.1 h2).1
  have hm : 0 < m := by
    rcases Nat.eq_zero_or_pos m with rfl | h
    · simp at hlt
    · exact h
  have e : (ptsL m n)[pre.length]? = some (((pre.length % m : Nat) : Int), ((pre.length / m : Nat) : Int)) := by simp [ptsL, hlt]
  rw [e] at h2
  exact ⟨pre.length % m, pre.length / m, Nat.mod_lt _ hm, by rw [Nat.div_lt_iff_lt_mul hm]; exact hlt, (Option.some.inj h2).symm, hlt⟩

set_option maxRecDepth 100000 in
set_option maxHeartbeats 2000000 in
theorem pts1_iter (p wd hi m n : Nat) (n₀ : Nat) (w : World) (h4 : wd ≤ 4) (h4' : hi ≤ 4) (hm : 8 * wd = m) (hn : 8 * hi = n) :
    IterK Try.prog 196 #[ptrV p] encA (ptsL m n) n₀ w (fun W => Has W p (.cells #[intV wd, intV hi] 186 (0, 0))) := by
  intro l J Jx W hW hK hJ hJx hY h0
  have hc := hK _ _ h0
  have w1 : IntKind.i64.wrap (8 * (wd : Int)) = (m : Int) := by rw [IntWalk.i64_in _ (by omega)]; omega
  have w2 : IntKind.i64.wrap (8 * (hi : Int)) = (n : Int) := by rw [IntWalk.i64_in _ (by omega)]; omega
  have mlt : m ≤ 32 := by omega
  have nlt : n ≤ 32 := by omega
  have HY := Lib.hid hY
  have H0 := Lib.hid h0
  have HK := Lib.hid hK
  have H1 := Lib.hid hc
  have c0 := hc.two
  clear hJ hJx hY h0 hW hm hn h4 h4' hc hK
  refine callsIn_of_wp Try.func196 rfl trivial ?_ rfl
  simp only [Try.ntmps196, List.size_toArray, List.length_cons, List.length_nil, Nat.reduceAdd, Nat.reduceSub, Array.replicate_succ, Array.replicate_zero, List.push_toArray, List.append_toArray, List.nil_append, List.cons_append]
  refine wpIn_scope_straight (fun _ _ _ h => h) ?_
  refine wpIn_seq_label ?_
  gi_wp2
  gi_loopg [8] n (fun k i wr => ∃ b : Nat, b ≤ n ∧ k = n - b ∧ i = .int .i64 b ∧ Hid (J ((ptsL m n).take (b * m)) wr ∧ Has wr p (.cells #[intV wd, intV hi] 186 (0, 0))))
  case atStart => exact ⟨0, by omega, by omega, rfl, Lib.hid ⟨by rw [Nat.zero_mul]; exact H0.out, H1.out⟩⟩
  case round =>
    obtain ⟨b, hb, hn, rfl, hj⟩ := hrel
    by_cases hlt : b < n
    · have HN := Lib.hid hn
      have C0 := Lib.hid c0
      clear hn c0
      have c0 := hj.out.2.two
      gi_wp2
      obtain ⟨wo, rfl⟩ : ∃ wo : World, wo = wr := ⟨_, rfl⟩
      clear c0
      gi_loopg [14] m (fun k i wr => ∃ a : Nat, a ≤ m ∧ k = m - a ∧ i = .int .i64 a ∧ Hid (J ((ptsL m n).take (b * m + a)) wr ∧ Has wr p (.cells #[intV wd, intV hi] 186 (0, 0))))
      case atStart => exact ⟨0, by omega, by omega, rfl, hj⟩
      case round =>
        clear hj
        obtain ⟨a, ha, hn, rfl, hj⟩ := hrel
        by_cases hla : a < m
        · have hx : (ptsL m n)[b * m + a]? = some ((a : Int), (b : Int)) := ptsL_at hla hlt
          obtain ⟨f0, t0, as0, bo0, hy0, hR0⟩ := HY.out ((ptsL m n).take (b * m + a)) ((a : Int), (b : Int)) wr hj.out.1 (take_snoc_prefix hx)
          dsimp only [encA] at hy0
          have HN2 := Lib.hid hn
          have HX := Lib.hid (And.intro hx hj.out.2)
          clear hn hj hx
          gi_wp2
          refine hR0.mono ?_
          rintro e W0 (⟨rfl, hJ0, hb0⟩ | ⟨rfl, hx0⟩)
          · have HJ := Lib.hid (And.intro hJ0 (HK.out _ _ hJ0))
            clear hJ0 hR0 hy0 hb0
            gi_wp2
            gi_roundg (m - (a + 1))
            case measure => have := HN2.out; omega
            case rel => exact ⟨a + 1, by omega, rfl, by go_num, Lib.hid ⟨by have h := HJ.out.1; rw [take_snoc HX.out.1] at h; exact h, HJ.out.2⟩⟩
          · gi_wp2
            go_end0
            exact ⟨⟨_, rfl⟩, .inr ⟨_, take_snoc_prefix HX.out.1, hx0⟩⟩
        · have e : a = m := by omega
          subst e
          clear hn
          gi_wp2
          gi_roundg (n - (b + 1))
          case measure => have := HN.out; omega
          case rel => exact ⟨b + 1, by omega, rfl, by go_num, Lib.hid ⟨by have h := hj.out.1; rw [show b * a + a = (b + 1) * a by rw [Nat.add_mul, Nat.one_mul]] at h; exact h, hj.out.2⟩⟩
    · have e : b = n := by omega
      subst e
      gi_wp2
      go_end0
      exact ⟨⟨_, rfl⟩, .inl (by have h := hj.out.1; rwa [List.take_of_length_le (by rw [ptsL_length]; omega)] at h)⟩

set_option maxHeartbeats 400000 in
theorem spoints_any (a b : Nat) (w : World) : Calls Try.prog 145 #[.agg #[intV a, intV b]] w fun e w' => e = .returned (.func (.func 196) #[] #[ptrV w.heap.size]) ∧ w' = w.alloc (.cells #[intV a, intV b] 186) := by
  go_enter Try.func145, Try.ntmps145
  go_wp2
  go_ret
  exact ⟨rfl, rfl⟩

/-- do the two differ there? -/
def dif1 (c d : Cv) (p : Int × Int) : Bool := !decide ((catV c p.1 p.2).1 = (catV d p.1 p.2).1)
set_option maxRecDepth 100000 in
set_option maxHeartbeats 1000000 in
theorem dif1_any (b1 b2 p q : Nat) (c d : Cv) (x y : Int) (w : World) (h1 : Has w b1 (.cells #[ptrV p] 66 (0, 0))) (h2 : Has w b2 (.cells #[ptrV q] 66 (0, 0))) (hc : CvAt w p c) (hd : CvAt w q d) :
    Calls Try.prog 144 #[.agg #[.int .i64 x, .int .i64 y], ptrV b1, ptrV b2] w fun e w' => e = .returned (.bool (dif1 c d (x, y))) ∧ Since w w' := by
  have q1 : w.cell? ⟨b1, 0, none⟩ = some (ptrV p) := h1.cell 0
  have l1 := h1.lt
  have H := Lib.hid (And.intro h1 (And.intro h2 (And.intro hc hd)))
  clear h1 h2 hc hd
  go_enter Try.func144, Try.ntmps144
  go_wp2_with (fail)
  refine (cat_any p c x y _ (H.out.2.2.1.since ((Since.refl w).alloc _))).mono ?_
  rintro e w1 ⟨rfl, s1⟩
  have S1 := ((Since.refl w).alloc (.cells #[.int .i64 x, .int .i64 y] 43)).step s1
  have o1 : Has w1 w.heap.size (.cells #[.int .i64 x, .int .i64 y] 43 (0, 0)) := (Has.new _ _).below s1 (by simp)
  obtain ⟨⟨⟨c0, c1, c2, c3⟩, r⟩, hr⟩ : ∃ r, catV c x y = r := ⟨_, rfl⟩
  rw [hr]
  have k1 := o1.two
  have k2 : w1.cell? ⟨b2, 0, none⟩ = some (ptrV q) := (H.out.2.1.since S1).cell 0
  have l2 := (H.out.2.1.since S1).lt
  have l0 := o1.lt
  have H1 := Lib.hid (And.intro S1 (And.intro o1 hr))
  clear S1 o1 hr s1 q1 l1
  go_wp2_with (fail)
  have e1 : Since w1 (w1.alloc (.cells #[.int .u8 c0, .int .u8 c1, .int .u8 c2, .int .u8 c3] 23)) := (Since.refl w1).alloc _
  refine (cat_any q d x y _ (H.out.2.2.2.since (H1.out.1.trans ((Since.refl w1).alloc _)))).mono ?_
  rintro e w2 ⟨rfl, s2⟩
  have S2 := (H1.out.1.trans ((Since.refl w1).alloc (.cells #[.int .u8 c0, .int .u8 c1, .int .u8 c2, .int .u8 c3] 23))).step s2
  have o2 : Has w2 w1.heap.size (.cells #[.int .u8 c0, .int .u8 c1, .int .u8 c2, .int .u8 c3] 23 (0, 0)) := (Has.new _ _).below s2 (by simp)
  obtain ⟨⟨⟨d0, d1, d2, d3⟩, r'⟩, hr'⟩ : ∃ r, catV d x y = r := ⟨_, rfl⟩
  rw [hr']
  have k3 := o2.four
  have l3 := o2.lt
  have H2 := Lib.hid (And.intro S2 (And.intro o2 hr'))
  clear S2 o2 hr' s2 e1 k1 k2 l2 l0
  go_wp2
  go_ret
  refine ⟨congrArg (fun b => Ending.returned (Value.bool b)) ?_, H2.out.1.alloc _⟩
  unfold dif1
  rw [H1.out.2.2, H2.out.2.2]
  exact congrArg (fun b => !b) (colB_eq (c0, c1, c2, c3) (d0, d1, d2, d3))

theorem info43 : ∃ i, Try.prog.info? 43 = some i ∧ i.zero = some (.agg #[.int .i64 0, .int .i64 0]) ∧ i.size = 2 ∧ i.bytes = 16 := by
  have h : (Try.prog.info? 43).map (fun i => (i.zero, i.size, i.bytes)) = some (some (.agg #[.int .i64 0, .int .i64 0]), 2, 16) := by kernel_rfl
  exact info_parts h
/-- between two rounds: the box holds what has come so far -/
def DifI (M wd hi : Nat) (F : List (Int × Int) → List (Int × Int)) (W0 : World) (pre : List (Int × Int)) (W : World) : Prop :=
  (∃ v, Boxed W (M + 1) 45 v ∧ W.ownsRow (M + 1) 43 2 v (F pre).length (ptsV (F pre)) ∧ True) ∧ Below (M + 1) W0 W ∧ Has W (M + 2) (.cells #[intV wd, intV hi] 186 (0, 0))
theorem difI_own {M wd hi : Nat} {F : List (Int × Int) → List (Int × Int)} {W0 : World} (sz : W0.heap.size = M + 3) : OwnFrom W0.heap.size (DifI M wd hi F W0) :=
  OwnFrom.and (Own.from (holdsRow_own (M + 1) (M + 1) 45 43 2 (fun pre => (F pre).length) (fun pre => ptsV (F pre)) (fun _ _ => True)) _) (OwnFrom.and (ownFrom_below (by omega) (by omega)) (has_low (by omega) _))
theorem DifI.since {M wd hi : Nat} {F : List (Int × Int) → List (Int × Int)} {W0 V U : World} {pre : List (Int × Int)} (h : DifI M wd hi F W0 pre V) (s : Since V U) : DifI M wd hi F W0 pre U := by
  obtain ⟨⟨v, h1, h2, _⟩, h3, h4⟩ := h
  exact ⟨⟨v, Has.since h1 s, own_since h2 s, trivial⟩, Below.trans h3 (Below.mono s (by have := Has.lt h1; omega)), h4.since s⟩
theorem keeps_since {B : Nat} {V U : World} (s : Since V U) : KeepsFrom B V U := ⟨s.size, fun k _ _ hk _ => (s.below.block k (Array.getElem?_eq_some_iff.1 hk).1).trans hk⟩
theorem Has.not_row {W : World} {B : Nat} {t e : TypeId} {A : Array Value} {z : Nat × Nat} (h : Has W B (.cells A t z)) (hte : t ≠ e) {base size k : Nat} {v : Value} {xs : List Value} (hr : W.ownsRow base e size v k xs) : some B ≠ v.ownBlock := by
  rcases hr.2 with ⟨rfl, _⟩ | ⟨g, cap, cur, rfl, _, hgb, _⟩
  · simp [Value.ownBlock]
  · intro e'
    obtain rfl : B = g := by simpa [Value.ownBlock] using e'
    have := (show W.heap[B]? = _ from h).symm.trans hgb
    simp at this
    exact hte this.2.1
/-- where they differ -/
def difL (c d : Cv) : List (Int × Int) := (ptsL (8 * c.w) (8 * c.h)).filter (dif1 c d)
def Diffs (c d : Cv) (w : World) (e : Ending) (w' : World) : Prop := ∃ ad cap, e = .returned (.slice ad (difL c d).length cap) ∧ PtRow w' ad (difL c d) ∧ (ad = none → difL c d = [] ∧ cap = 0) ∧ Since w w'
set_option maxRecDepth 100000 in
set_option maxHeartbeats 2000000 in
theorem differ_any (p q : Nat) (c d : Cv) (w : World) (hc : CvAt w p c) (hd : CvAt w q d) (hw : c.w = d.w) (hh : c.h = d.h) :
    Calls Try.prog 59 #[ptrV p, ptrV q] w (Diffs c d w) := by
  obtain ⟨g, cap, k⟩ := hc
  obtain ⟨g', cap', k'⟩ := hd
  have ok := k.ok
  have w4 := ok.w4
  have h4 := ok.h4
  obtain ⟨wd, hwd⟩ : ∃ wd, c.w = wd := ⟨_, rfl⟩
  obtain ⟨hi, hhi⟩ : ∃ hi, c.h = hi := ⟨_, rfl⟩
  rw [hwd] at w4
  rw [hhi] at h4
  have r1 := k.rec_
  have r2 := k'.rec_
  rw [← hw, ← hh, hwd, hhi] at r2
  rw [hwd, hhi] at r1
  have lb1 := r1.lt
  have lb2 := r2.lt
  have K := Lib.hid (And.intro k (And.intro k' (And.intro hwd (And.intro hhi (And.intro r1 r2)))))
  clear k k' ok hw hh hwd hhi r1 r2
  obtain ⟨i0, hin, hz0, hz1, hz2⟩ := info43
  refine calls_of_wp_marks Try.func59 rfl ?_
  simp only [Try.ntmps59, List.size_toArray, List.length_cons, List.length_nil, Nat.reduceAdd, Nat.reduceSub, Array.replicate_succ, Array.replicate_zero, List.push_toArray, List.append_toArray, List.nil_append, List.cons_append]
  go_wp2
  refine wp_region_sched [(0, false), (1, false), (2, false), (3, false), (4, false), (5, false), (6, false), (7, false), (8, false), (9, false), (10, false), (11, false), (12, false), (13, false), (14, false), (15, false), (16, false)] (fun Y => Since w Y ∧ Has Y w.heap.size (.cells #[ptrV p] 66 (0, 0)) ∧ Has Y (w.heap.size + 1) (.cells #[ptrV q] 66 (0, 0))) (by kernel_rfl) (by kernel_rfl) ⟨((Since.refl w).alloc _).alloc _ |>.drew, ((Has.new _ _).alloc _).drew, (Has.new' (by simp)).drew⟩ ?_
  repeat (refine sched_pure (v := ?_) rfl rfl ?_ ?_; rotate_left; (focus (intro Y hY; have y0 := (K.out.2.2.2.2.1.since hY.1).three; have y1 := (K.out.2.2.2.2.2.since hY.1).three; have y2 : Y.cell? ⟨w.heap.size, 0, none⟩ = some (ptrV p) := hY.2.1.cell 0; have y3 : Y.cell? ⟨w.heap.size + 1, 0, none⟩ = some (ptrV q) := hY.2.2.cell 0; go_simp; try with_reducible rfl)); go_simp; try go_bits)
  refine sched_end ?_
  generalize hX : World.drew _ = X
  have sX : Since w X := by rw [← hX]; exact (((Since.refl w).alloc _).alloc _).drew
  have x0 : Has X w.heap.size (.cells #[ptrV p] 66 (0, 0)) := by rw [← hX]; exact ((Has.new _ _).alloc _).drew
  have x1 : Has X (w.heap.size + 1) (.cells #[ptrV q] 66 (0, 0)) := by rw [← hX]; exact (Has.new' (by simp)).drew
  obtain ⟨M, hM⟩ : ∃ M, X.heap.size = M := ⟨_, rfl⟩
  have y2 : X.cell? ⟨w.heap.size, 0, none⟩ = some (ptrV p) := x0.cell 0
  have y3 := (K.out.2.2.2.2.1.since sX).three
  have l0 := x0.lt
  have l1 : p < X.heap.size := (K.out.2.2.2.2.1.since sX).lt
  have HX := Lib.hid (And.intro sX (And.intro x0 (And.intro x1 hM)))
  clear hX sX x0 x1 hM lb1 lb2
  go_simp
  go_wp2_with (fail)
  refine (spoints_any wd hi _).mono ?_
  rintro e w1 ⟨rfl, rfl⟩
  simp only [World.size_alloc, HX.out.2.2.2]
  generalize hW : World.alloc _ _ = W0
  have eM := HX.out.2.2.2
  have c0 : Has W0 M (.cells #[.func (Fn.func 144) #[] #[ptrV w.heap.size, ptrV (w.heap.size + 1)]] 193 (0, 0)) := by rw [← hW]; exact ((Has.new' eM.symm).alloc _).alloc _
  have c1 : Boxed W0 (M + 1) 45 (.slice none 0 0) := by rw [← hW]; exact (Has.new' (by simp [eM])).alloc _
  have c2 : Has W0 (M + 2) (.cells #[intV wd, intV hi] 186 (0, 0)) := by rw [← hW]; exact Has.new' (by simp [eM])
  have s0 : Since X W0 := by rw [← hW]; exact (((Since.refl X).alloc _).alloc _).alloc _
  have sz : W0.heap.size = M + 3 := by rw [← hW]; simp [eM]
  have H0 := Lib.hid (And.intro c0 (And.intro c1 (And.intro c2 (And.intro s0 (And.intro sz eM)))))
  clear hW c0 c1 c2 s0 sz eM y2 y3 l0 l1
  go_wp2_with (fail)
  obtain ⟨F, hF⟩ : ∃ F : List (Int × Int) → List (Int × Int), F = List.filter (dif1 c d) := ⟨_, rfl⟩
  have Fs : ∀ pre x, F (pre ++ [x]) = if dif1 c d x = true then F pre ++ [x] else F pre := by
    intro pre x
    rw [hF, List.filter_append, List.filter_cons, List.filter_nil]
    split <;> simp
  have HF := Lib.hid hF
  clear hF
  refine wp_rangeK rfl (enters_of Try.func196 (by kernel_rfl) rfl) (pts1_iter (M + 2) wd hi (8 * wd) (8 * hi) (M + 1) W0 w4 h4 rfl rfl) (by have := H0.out.2.2.2.2.1; omega) (Below.refl _ _) (fun _ => rfl)
    (DifI M wd hi F W0) (difI_own H0.out.2.2.2.2.1)
    (fun pre W h => h.2.2)
    ⟨⟨_, H0.out.2.1, by rw [HF.out]; exact World.ownsRow_nil _ _ _ _, trivial⟩, Below.refl _ _, H0.out.2.2.1⟩
    ?round ?done
  case round =>
    intro l pre x W hI hpre
    have HI := Lib.hid hI
    have HP := Lib.hid hpre
    clear hI hpre
    obtain ⟨x, y⟩ := x
    gi_wp2
    have hB := HI.out.2.1.size
    refine ⟨(KeepsOthers.alloc W _).from _, (Below.refl _ W).alloc (by have := H0.out.2.2.2.2.1; omega) _, fun V => DifI M wd hi F W0 pre V ∧ Has V W.heap.size (.cells #[.int .i64 x, .int .i64 y] 43 (0, 0)), ?_, ⟨(difI_own H0.out.2.2.2.2.1).alloc _ HI.out, Has.new W _⟩, ?_⟩
    · exact OwnFrom.and (I := fun (_ : Unit) V => DifI M wd hi F W0 pre V) (I' := fun (_ : Unit) V => Has V W.heap.size (.cells #[.int .i64 x, .int .i64 y] 43 (0, 0))) (fun _ A B row h hg hr => difI_own H0.out.2.2.2.2.1 pre A B row h hg hr) (has_own _ _ (fun _ => #[.int .i64 x, .int .i64 y]) _ _)
    · rintro V ⟨hV, hx⟩
      have b0 : Since X V := Below.trans H0.out.2.2.2.1 (Below.mono hV.2.1 (by have := H0.out.2.2.2.2.2; omega))
      have q0 : V.cell? ⟨M, 0, none⟩ = some (.func (Fn.func 144) #[] #[ptrV w.heap.size, ptrV (w.heap.size + 1)]) := (H0.out.1.below hV.2.1 (by omega)).cell 0
      have q7 := hx.two
      have sx : Since w V := HX.out.1.trans b0
      have H := Lib.hid (And.intro hV (And.intro hx (And.intro b0 sx)))
      have en' : ∀ args w, (callFunc 144 args).run Try.prog w = .ok (.enter 144 args) w := enters_of Try.func144 (by kernel_rfl) rfl
      obtain ⟨bb, hbb⟩ : ∃ bb, dif1 c d (x, y) = bb := ⟨_, rfl⟩
      have HB := Lib.hid hbb
      clear hV hx b0 sx hbb hB
      gi_wp2_with (fail)
      refine inRd (dif1_any w.heap.size (w.heap.size + 1) p q c d x y V (HX.out.2.1.since H.out.2.2.1) (HX.out.2.2.1.since H.out.2.2.1) (CvAt.since ⟨_, _, K.out.1⟩ H.out.2.2.2) (CvAt.since ⟨_, _, K.out.2.1⟩ H.out.2.2.2)) ?_
      rintro e w2 ⟨rfl, s2⟩
      rw [HB.out]
      clear en' q0 q7
      cases bb with
      | false =>
        gi_wp2
        refine ⟨keeps_since s2, Below.mono s2 (by have := Has.lt H.out.1.1.choose_spec.1; omega), ?_⟩
        have h := H.out.1.since s2
        unfold DifI at h ⊢
        rw [Fs, HB.out]
        exact h
      | true =>
        have h := H.out.1.since s2
        obtain ⟨⟨v, hv, hrow, -⟩, hbl, hsz⟩ := h
        have hc := hv.cell
        have qx := (H.out.2.1.since s2).two
        have G := Lib.hid (And.intro hv (And.intro hrow (And.intro hbl (And.intro hsz s2))))
        clear hv hrow hbl hsz s2
        have hlen : (F pre).length < 1024 := by
          obtain ⟨_, _, _, _, _, h1⟩ := ptsL_round HP.out
          have h2 : 8 * hi * (8 * wd) ≤ 32 * 32 := Nat.mul_le_mul (by omega) (by omega)
          have h3 : (F pre).length ≤ pre.length := by rw [HF.out]; exact List.length_filter_le _ _
          omega
        have lM : M + 1 < w2.heap.size := Has.lt G.out.1
        gi_wp2_with (gi_at_builtin; refine wpListIn_append_own _ rfl _ _ 45 rfl (M + 1) 43 i0 (.agg #[.int .i64 0, .int .i64 0]) 2 16 (by kernel_rfl) hin hz0 hz1 hz2 rfl (by omega) _ _ _ rfl (G.out.2.1.alloc _) ⟨w2.heap.size, 0, none⟩ 1 1 (ptsV [(x, y)]) rfl rfl ?b0 (ptsV_one _) ?b1 ?b2 ?b3 ?_)
        case b0 =>
          intro j u hj
          match j, hj with
          | 0, hj => cases hj; exact (Has.new w2 _).cell 0
          | 1, hj => cases hj; exact (Has.new w2 _).cell 1
          | j + 2, hj => simp [ptsV] at hj
        case b1 => unfold maxLen; omega
        case b2 => omega
        case b3 => rw [World.size_alloc]; omega
        intro v' w1 hown hgrow _
        obtain ⟨g1, cap1, rfl⟩ := ownsRow_succ hown
        obtain ⟨hv1, hv2, hr2, hk2, hb2⟩ := Boxed.appended G.out.1 (by decide) G.out.2.1 (by omega) (Nat.le_refl _) hown hgrow
        have hc1 := hv1.cell
        have hf1 := hv1.frozen
        have hz' := ((G.out.2.2.2.1.alloc _).kept hgrow (G.out.2.2.2.1.not_row (by decide) G.out.2.1)).other (a := ⟨M + 1, 0, none⟩) (.slice (some ⟨g1, 0, none⟩) ((F pre).length + 1) cap1) (by simp)
        have G2 := Lib.hid (And.intro hv2 (And.intro hr2 (And.intro hk2 (And.intro hb2 hz'))))
        clear hv1 hv2 hr2 hk2 hb2 hz' hown hgrow
        gi_wp2
        obtain ⟨hv2, hr2, hk2, hb2, hz'⟩ := G2.out
        refine ⟨(keeps_since G.out.2.2.2.2).trans (hk2.from _), Below.trans (Below.mono G.out.2.2.2.2 (by have := Has.lt H.out.1.1.choose_spec.1; omega)) hb2, ⟨_, hv2, ?_, trivial⟩, G.out.2.2.1.trans hb2, hz'⟩
        rw [Fs, HB.out, if_pos rfl, List.length_append]
        have e : ptsV (F pre ++ [(x, y)]) = ptsV (F pre) ++ ptsV [(x, y)] := by simp [ptsV]
        rw [e]
        exact hr2
  case done =>
    intro D V hD hI hK
    obtain ⟨⟨v, hv, hrow, -⟩, hbl, hsz⟩ := hI
    rw [HF.out] at hrow
    have hc := hv.cell
    have G := Lib.hid (And.intro hv (And.intro hrow (And.intro hbl (And.intro hsz hK))))
    clear hv hrow hbl hsz hK
    go_wp2
    obtain ⟨hv, hrow, hbl, hsz, hK⟩ := G.out
    have e0 : difL c d = List.filter (dif1 c d) (ptsL (8 * wd) (8 * hi)) := by unfold difL; rw [K.out.2.2.1, K.out.2.2.2.1]
    have hp := ownsRow_putObj hrow (l := D) (.deferred none) hK rfl
    rw [← e0] at hp
    have hlen : (difL c d).length ≤ maxLen := by
      have h1 : (difL c d).length ≤ (ptsL (8 * wd) (8 * hi)).length := by rw [e0]; exact List.length_filter_le _ _
      rw [ptsL_length] at h1
      have h2 : 8 * hi * (8 * wd) ≤ 32 * 32 := Nat.mul_le_mul (by omega) (by omega)
      unfold maxLen; omega
    have hW : ∀ x ∈ difL c d, WdP x := by
      intro x hx
      rw [e0] at hx
      have hx' := (List.mem_filter.1 hx).1
      obtain ⟨a, b, ha, hb, rfl⟩ := ptsL_mem hx'
      unfold WdP
      simp only
      omega
    obtain ⟨ad, cp, rfl, hr, hn⟩ := pts_of_own hlen hW hp
    · have bX : Since w V := HX.out.1.trans (Below.trans H0.out.2.2.2.1 (Below.mono hbl (by have := H0.out.2.2.2.2.2; omega)))
      refine leaves_mark hK (leaves_end (results_tmp rfl _ _ _) ⟨ad, cp, rfl, hr, hn, Below.trans bX (below_mark hK ?_)⟩)
      have := HX.out.1.size
      have := H0.out.2.2.2.2
      omega

set_option maxRecDepth 100000 in
set_option maxHeartbeats 1000000 in
theorem differ_n1 (v : Option Addr) (w : World) : Calls Try.prog 59 #[.pointer none, .pointer v] w fun e w' => e = .returned (.slice none 0 0) ∧ Since w w' := by
  refine calls_of_wp_marks Try.func59 rfl ?_
  simp only [Try.ntmps59, List.size_toArray, List.length_cons, List.length_nil, Nat.reduceAdd, Nat.reduceSub, Array.replicate_succ, Array.replicate_zero, List.push_toArray, List.append_toArray, List.nil_append, List.cons_append]
  go_wp2
  refine wp_region_sched [(0, false), (1, false), (2, false), (3, false), (4, false), (5, false), (6, false), (7, false), (8, false), (9, false), (10, false), (11, false), (12, false), (13, false), (14, false), (15, false), (16, false)] (fun Y => Since w Y ∧ Has Y w.heap.size (.cells #[.pointer none] 66 (0, 0)) ∧ Has Y (w.heap.size + 1) (.cells #[.pointer v] 66 (0, 0))) (by kernel_rfl) (by kernel_rfl) ⟨((Since.refl w).alloc _).alloc _ |>.drew, ((Has.new _ _).alloc _).drew, (Has.new' (by simp)).drew⟩ ?_
  repeat (refine sched_pure (v := ?_) rfl rfl ?_ ?_; rotate_left; (focus (intro Y hY; have y2 : Y.cell? ⟨w.heap.size, 0, none⟩ = some (.pointer none) := hY.2.1.cell 0; have y3 : Y.cell? ⟨w.heap.size + 1, 0, none⟩ = some (.pointer v) := hY.2.2.cell 0; go_simp; try with_reducible rfl)); go_simp; try go_bits)
  repeat (refine sched_idle rfl rfl ⟨(((Since.refl w).alloc _).alloc _).drew, ((Has.new _ _).alloc _).drew, (Has.new' (by simp)).drew⟩ ?_; go_simp)
  repeat (refine sched_pure (v := ?_) rfl rfl ?_ ?_; rotate_left; (focus (intro Y hY; have y2 : Y.cell? ⟨w.heap.size, 0, none⟩ = some (.pointer none) := hY.2.1.cell 0; have y3 : Y.cell? ⟨w.heap.size + 1, 0, none⟩ = some (.pointer v) := hY.2.2.cell 0; go_simp; try with_reducible rfl)); go_simp; try go_bits)
  repeat (refine sched_idle rfl rfl ⟨(((Since.refl w).alloc _).alloc _).drew, ((Has.new _ _).alloc _).drew, (Has.new' (by simp)).drew⟩ ?_; go_simp)
  repeat (refine sched_pure (v := ?_) rfl rfl ?_ ?_; rotate_left; (focus (intro Y hY; have y2 : Y.cell? ⟨w.heap.size, 0, none⟩ = some (.pointer none) := hY.2.1.cell 0; have y3 : Y.cell? ⟨w.heap.size + 1, 0, none⟩ = some (.pointer v) := hY.2.2.cell 0; go_simp; try with_reducible rfl)); go_simp; try go_bits)
  refine sched_end ?_
  go_simp
  go_wp2
  refine leaves_end (results_tmp rfl _ _ _) ⟨rfl, (((Since.refl w).alloc _).alloc _).drew⟩
set_option maxRecDepth 100000 in
set_option maxHeartbeats 1000000 in
theorem differ_n2 (p : Nat) (w : World) : Calls Try.prog 59 #[ptrV p, .pointer none] w fun e w' => e = .returned (.slice none 0 0) ∧ Since w w' := by
  refine calls_of_wp_marks Try.func59 rfl ?_
  simp only [Try.ntmps59, List.size_toArray, List.length_cons, List.length_nil, Nat.reduceAdd, Nat.reduceSub, Array.replicate_succ, Array.replicate_zero, List.push_toArray, List.append_toArray, List.nil_append, List.cons_append]
  go_wp2
  refine wp_region_sched [(0, false), (1, false), (2, false), (3, false), (4, false), (5, false), (6, false), (7, false), (8, false), (9, false), (10, false), (11, false), (12, false), (13, false), (14, false), (15, false), (16, false)] (fun Y => Since w Y ∧ Has Y w.heap.size (.cells #[ptrV p] 66 (0, 0)) ∧ Has Y (w.heap.size + 1) (.cells #[.pointer none] 66 (0, 0))) (by kernel_rfl) (by kernel_rfl) ⟨((Since.refl w).alloc _).alloc _ |>.drew, ((Has.new _ _).alloc _).drew, (Has.new' (by simp)).drew⟩ ?_
  repeat (refine sched_pure (v := ?_) rfl rfl ?_ ?_; rotate_left; (focus (intro Y hY; have y2 : Y.cell? ⟨w.heap.size, 0, none⟩ = some (ptrV p) := hY.2.1.cell 0; have y3 : Y.cell? ⟨w.heap.size + 1, 0, none⟩ = some (.pointer none) := hY.2.2.cell 0; go_simp; try with_reducible rfl)); go_simp; try go_bits)
  repeat (refine sched_idle rfl rfl ⟨(((Since.refl w).alloc _).alloc _).drew, ((Has.new _ _).alloc _).drew, (Has.new' (by simp)).drew⟩ ?_; go_simp)
  repeat (refine sched_pure (v := ?_) rfl rfl ?_ ?_; rotate_left; (focus (intro Y hY; have y2 : Y.cell? ⟨w.heap.size, 0, none⟩ = some (ptrV p) := hY.2.1.cell 0; have y3 : Y.cell? ⟨w.heap.size + 1, 0, none⟩ = some (.pointer none) := hY.2.2.cell 0; go_simp; try with_reducible rfl)); go_simp; try go_bits)
  repeat (refine sched_idle rfl rfl ⟨(((Since.refl w).alloc _).alloc _).drew, ((Has.new _ _).alloc _).drew, (Has.new' (by simp)).drew⟩ ?_; go_simp)
  repeat (refine sched_pure (v := ?_) rfl rfl ?_ ?_; rotate_left; (focus (intro Y hY; have y2 : Y.cell? ⟨w.heap.size, 0, none⟩ = some (ptrV p) := hY.2.1.cell 0; have y3 : Y.cell? ⟨w.heap.size + 1, 0, none⟩ = some (.pointer none) := hY.2.2.cell 0; go_simp; try with_reducible rfl)); go_simp; try go_bits)
  refine sched_end ?_
  go_simp
  go_wp2
  refine leaves_end (results_tmp rfl _ _ _) ⟨rfl, (((Since.refl w).alloc _).alloc _).drew⟩
set_option maxRecDepth 100000 in
set_option maxHeartbeats 1000000 in
theorem differ_ne (p q : Nat) (c d : Cv) (w : World) (hc : CvAt w p c) (hd : CvAt w q d) (hne : ¬ (c.w = d.w ∧ c.h = d.h)) :
    Calls Try.prog 59 #[ptrV p, ptrV q] w fun e w' => e = .returned (.slice none 0 0) ∧ Since w w' := by
  obtain ⟨g, cap, k⟩ := hc
  obtain ⟨g', cap', k'⟩ := hd
  have lb1 := k.rec_.lt
  have lb2 := k'.rec_.lt
  have K := Lib.hid (And.intro k k')
  clear k k'
  obtain ⟨x1, h1⟩ : ∃ x : Int, (c.w : Int) = x := ⟨_, rfl⟩
  obtain ⟨x2, h2⟩ : ∃ x : Int, (c.h : Int) = x := ⟨_, rfl⟩
  obtain ⟨z1, h3⟩ : ∃ x : Int, (d.w : Int) = x := ⟨_, rfl⟩
  obtain ⟨z2, h4⟩ : ∃ x : Int, (d.h : Int) = x := ⟨_, rfl⟩
  have hn : ¬ (x1 = z1 ∧ x2 = z2) := by omega
  have HH := Lib.hid (And.intro h1 (And.intro h2 (And.intro h3 h4)))
  clear h1 h2 h3 h4 hne
  have hb : ∀ w, (binOp .neq 186 (.agg #[.int .i64 x1, .int .i64 x2]) (.agg #[.int .i64 z1, .int .i64 z2])).run Try.prog w = .ok (.bool true) w := by
    intro w
    by_cases h1 : x1 = z1
    · have h2 : ¬ x2 = z2 := fun e => hn ⟨h1, e⟩
      simp [go_sem, h1, h2]
    · simp [go_sem, h1]
  clear hn
  refine calls_of_wp_marks Try.func59 rfl ?_
  simp only [Try.ntmps59, List.size_toArray, List.length_cons, List.length_nil, Nat.reduceAdd, Nat.reduceSub, Array.replicate_succ, Array.replicate_zero, List.push_toArray, List.append_toArray, List.nil_append, List.cons_append]
  go_wp2
  refine wp_region_sched [(0, false), (1, false), (2, false), (3, false), (4, false), (5, false), (6, false), (7, false), (8, false), (9, false), (10, false), (11, false), (12, false), (13, false), (14, false), (15, false), (16, false)] (fun Y => Since w Y ∧ Has Y w.heap.size (.cells #[ptrV p] 66 (0, 0)) ∧ Has Y (w.heap.size + 1) (.cells #[ptrV q] 66 (0, 0))) (by kernel_rfl) (by kernel_rfl) ⟨((Since.refl w).alloc _).alloc _ |>.drew, ((Has.new _ _).alloc _).drew, (Has.new' (by simp)).drew⟩ ?_
  repeat (refine sched_pure (v := ?_) rfl rfl ?_ ?_; rotate_left; (focus (intro Y hY; have y0 := (K.out.1.rec_.since hY.1).three; have y1 := (K.out.2.rec_.since hY.1).three; rw [HH.out.1, HH.out.2.1] at y0; rw [HH.out.2.2.1, HH.out.2.2.2] at y1; have y2 : Y.cell? ⟨w.heap.size, 0, none⟩ = some (ptrV p) := hY.2.1.cell 0; have y3 : Y.cell? ⟨w.heap.size + 1, 0, none⟩ = some (ptrV q) := hY.2.2.cell 0; go_simp; try with_reducible rfl)); go_simp; try go_bits)
  refine sched_end ?_
  go_simp
  go_wp2
  refine leaves_end (results_tmp rfl _ _ _) ⟨rfl, (((Since.refl w).alloc _).alloc _).drew⟩
end Go.Proofs.Ytedckelfdkfkoaa
