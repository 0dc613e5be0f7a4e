/- Walks: what a canvas shows. -/
import Derived.Test.YtedckelfdkfkoaaCf
import Derived.Great.BuildSlice
namespace Go.Proofs.Ytedckelfdkfkoaa
open Go.RowKit Go.Shelf
attribute [local go_sem] Oper.semAt_some
attribute [local go_sem 2000] run_col run_tile
attribute [local go_sem ↓] Go.wp_at_zero Go.wp_at_succ
attribute [local go_sem ↓] zero25 build25 build176z build176 load25 store25
attribute [local go_sem] World.setRow_alloc_new
attribute [local go_sem] rowAt_alloc rowFree_alloc rowAt_drew rowFree_drew zeroA_size zc176 zeroA_ones blkOf_ptr aggOf_agg

set_option maxRecDepth 100000 in
set_option maxHeartbeats 400000 in
theorem show1_any (p : Nat) (T : List Col) (w : World) (lT : T.length = 64) (hp : Has w p (.cells (tileA T) 25 (0, 0))) : Calls Try.prog 147 #[ptrV p] w fun e w' => e = .returned (.agg (tileA T)) ∧ Below w.heap.size w w' := by
  have hs : (tileA T).size = 256 := by rw [tileA_size, lT]
  have ho := onesB_tile T
  obtain ⟨A, hA⟩ : ∃ A, tileA T = A := ⟨_, rfl⟩
  rw [hA] at hp hs ho ⊢
  have e0 := hp.row
  have l0 := hp.lt
  clear hA
  go_enter Try.func147, Try.ntmps147
  go_wp2
  exact bodyPost_ret (v := .agg A) (res25 (fn := Try.f147) (p := 2) Try.results147 _ _ w.heap.size 25 A (0, 0) rfl (Has.new _ _) hs) rfl ⟨rfl, (Since.refl w).alloc _⟩

/-- the state of the loop of made -/
structure ShSt (Ts : List (List Col)) (n₀ k : Nat) (w wr : World) (v : Value) : Prop where
  kle : k ≤ Ts.length
  own : wr.ownsRow n₀ 25 256 v k (tilesV (Ts.take k))
  sw : Since w wr
def Shown (Ts : List (List Col)) (w : World) (e : Ending) (w' : World) : Prop := ∃ ad cap, e = .returned (.slice ad Ts.length cap) ∧ TilRow w' ad Ts ∧ (ad = none → Ts = [] ∧ cap = 0) ∧ (∀ a, ad = some a → ∃ g, a = ⟨g, 0, none⟩ ∧ w.heap.size ≤ g) ∧ Ts.length ≤ cap ∧ Since w w'
theorem info25z : ∃ i, Try.prog.info? 25 = some i ∧ i.zero = some (.agg zeroA) ∧ i.size = 256 ∧ i.bytes = 256 := by
  have h : (Try.prog.info? 25).map (fun i => (i.zero, i.size, i.bytes)) = some (some (.agg zeroA), 256, 256) := by kernel_rfl
  exact info_parts h
theorem bslice61 (A : Array Value) (hA : A.size = 256) (W : World) : (Instr.buildSlice 61 1 #[(0, .agg A)]).run Try.prog W = .ok (.slice (some ⟨W.heap.size, 0, none⟩) 1 1) (W.alloc (.cells A 25)) := by
  obtain ⟨ie, hie, hz, hs, _⟩ := info25z
  refine run_buildSlice W 61 25 1 #[(0, .agg A)] A ie (.agg zeroA) (by kernel_rfl) hie hz (by rw [hs]; decide) (by rw [hs]; decide) ?_
  rw [hs]
  obtain ⟨C, hC⟩ : ∃ C : Array Value, (Array.range (1 * 256)).map ((Value.agg zeroA).cells[· % (Value.agg zeroA).cells.size]!) = C := ⟨_, rfl⟩
  have hCs : C.size = 256 := by rw [← hC]; simp
  rw [hC]
  simp only [Instr.fill, Value.cells, hA, hCs, Nat.zero_mul, Nat.zero_add, ne_eq, not_true_eq_false, decide_false, gt_iff_lt, Nat.lt_irrefl, Bool.or_self, Bool.false_eq_true, if_false, Option.some.injEq]
  have := fold_whole A C (by rw [hA, hCs])
  simpa using this
theorem exec_bslice61 (e : Operand → Value) (x : Operand) (dst : Option Tmp) (t : TypeId) (pos : String) (af : Array Edge) (g : Option (Nat × Bool)) (w : World) (hx : e x = .agg (aggOf (e x))) (hA : (aggOf (e x)).size = 256) :
    (execOp e ⟨dst, .buildSlice 61 1 #[(0, x)], t, pos, af, g⟩).run Try.prog w = .ok (.value (.slice (some ⟨w.heap.size, 0, none⟩) 1 1)) (w.alloc (.cells (aggOf (e x)) 25)) := by
  have h := bslice61 (aggOf (e x)) hA w
  rw [← hx] at h
  unfold execOp
  simp only [Sem.run_bind, List.map_toArray, List.map_cons, List.map_nil, h, Result.andThen_ok, Sem.run_pure]
attribute [local go_sem ↓] exec_bslice61
theorem tile_cells {W : World} {b : Nat} {T : List Col} {ty : TypeId} {z : Nat × Nat} (h : Has W b (.cells (tileA T) ty z)) : ∀ j u, (colsV T)[j]? = some u → W.cell? ((⟨b, 0, none⟩ : Addr).add j) = some u := h.til
set_option maxRecDepth 100000 in
set_option maxHeartbeats 2000000 in
theorem madet_any (g cap : Nat) (ps : List Nat) (Ts : List (List Col)) (w : World) (hps : PsAt w g ps) (hts : TsAt w ps Ts) (np : ps.length = Ts.length) (n16 : ps.length ≤ 16) (l64 : ∀ T ∈ Ts, T.length = 64) (bys : ∀ T ∈ Ts, ∀ d ∈ T, ByC d) :
    Calls Try.prog 146 #[.slice (some ⟨g, 0, none⟩) ps.length cap, .func (.func 147) #[] #[]] w (Shown Ts w) := by
  obtain ⟨m, hm⟩ : ∃ m, ps.length = m := ⟨_, rfl⟩
  rw [hm] at np n16 ⊢
  obtain ⟨i0, hi, hz0, hz1, hz2⟩ := info25z
  have A := Lib.hid (And.intro hm (And.intro np (And.intro hps (And.intro hts (And.intro l64 bys)))))
  have en' : ∀ args w, (callFunc 147 args).run Try.prog w = .ok (.enter 147 args) w := enters_of Try.func147 (by kernel_rfl) rfl
  have En := Lib.hid en'
  clear hm np hps hts l64 bys en'
  go_enter Try.func146, Try.ntmps146
  go_wp2
  go_loopg [5, 10] m (fun n v i wr => ∃ (k : Nat), n = m - k ∧ i = .int .i64 k ∧ ShSt Ts w.heap.size k w wr v)
  case atStart => exact ⟨0, by omega, rfl, by omega, ⟨rfl, .inl ⟨rfl, rfl⟩⟩, Since.refl _⟩
  case round =>
    obtain ⟨k, hn, rfl, hst⟩ := hrel
    have hk := hst.kle
    obtain ⟨hm, np, hps, hts, l64, bys⟩ := A.out
    by_cases hlt : k < m
    · obtain ⟨p, hp⟩ : ∃ p, ps[k]? = some p := ⟨_, List.getElem?_eq_getElem (by omega)⟩
      obtain ⟨T, hT⟩ : ∃ T, Ts[k]? = some T := ⟨_, List.getElem?_eq_getElem (by omega)⟩
      have c0 := cell_since (hps k p hp) hst.sw
      have lT := l64 T (List.mem_of_getElem? hT)
      have tW := (hts k p T hp hT).since hst.sw
      have S := Lib.hid (And.intro hn (And.intro hst (And.intro hT (And.intro lT tW))))
      have en' := En.out
      clear hn hst hT tW hm np hps hts l64 bys hp
      go_wp2_with (fail)
      refine (show1_any p T _ lT S.out.2.2.2.2).mono ?_
      rintro e w1 ⟨rfl, b1⟩
      have s1 : Since wr w1 := (Since.refl wr).step b1
      have S1 := Lib.hid s1
      clear en' c0 b1 s1
      have hs : (tileA T).size = 256 := by rw [tileA_size, lT]
      have ho := onesB_tile T
      obtain ⟨AT, hAT⟩ : ∃ AT, tileA T = AT := ⟨_, rfl⟩
      rw [hAT] at hs ho ⊢
      have HAT := Lib.hid hAT
      clear hAT
      have oW := own_since S.out.2.1.own S1.out
      have NW := Lib.hid (show ∀ j u, (colsV T)[j]? = some u → (w1.alloc (.cells AT 25)).cell? ((⟨w1.heap.size, 0, none⟩ : Addr).add j) = some u from by rw [← HAT.out]; exact tile_cells (Has.new w1 (.cells (tileA T) 25 (0, 0))))
      have H := Lib.hid oW
      have hl : (colsV T).length = 1 * 256 := by rw [colsV_length, lT]
      have lo : w.heap.size ≤ w1.heap.size := by have := S.out.2.1.sw.size; have := S1.out.size; omega
      clear oW ho
      go_wp2_with (at_builtin; refine wpList_append_own _ rfl _ _ 61 rfl w.heap.size 25 i0 (.agg zeroA) 256 256 (by kernel_rfl) hi hz0 hz1 hz2 zeroA_size (by omega) _ k (tilesV (Ts.take k)) rfl (H.out.alloc _) ⟨w1.heap.size, 0, none⟩ 1 1 (colsV T) rfl hl NW.out (colsV_one T) ?b1 ?b2 ?b3 ?_)
      case b1 => unfold maxLen; omega
      case b2 => omega
      case b3 => simp; omega
      intro v' w4 hO4 hg4 _
      have H4 := Lib.hid (And.intro hO4 hg4)
      clear hO4 hg4 hs
      go_wp2
      obtain ⟨hn, hst, hT, _, tW⟩ := S.out
      obtain ⟨hO4, hg4⟩ := H4.out
      go_roundg (m - (k + 1))
      case measure => omega
      case rel =>
        refine ⟨k + 1, rfl, by go_num, by rw [← A.out.2.1]; exact hlt, by rw [← take_snoc hT, tilesV_snoc]; exact hO4, ?_⟩
        exact ((hst.sw.trans S1.out).alloc (.cells AT 25)).grown1 hg4 (fun g e => by have := (hst.own.lt _ e).1; omega)
    · obtain rfl : k = m := by omega
      have hO := hst.own
      have e1 : Ts.take k = Ts := List.take_of_length_le (by omega)
      rw [e1] at hO
      have hO' : wr.ownsRow w.heap.size 25 256 u5 Ts.length (tilesV Ts) := by rw [← np]; exact hO
      obtain ⟨ad, cap', rfl, hrow, hnil, hg, hcap⟩ := til_of_own (by rw [← np]; unfold maxLen; omega) l64 bys hO'
      have J := Lib.hid (And.intro hrow (And.intro hnil (And.intro hg (And.intro hcap hst.sw))))
      clear hO hO' hrow hnil hg hcap hst hn e1 hm np hps hts l64 bys
      go_wp2
      go_ret
      exact ⟨ad, cap', rfl, J.out.1, J.out.2.1, J.out.2.2.1, J.out.2.2.2.1, J.out.2.2.2.2⟩

theorem size63 : (Try.prog.info? 63).map (·.size) = some 3 := by kernel_rfl
theorem res63 {fn : Func} {p : Tmp} (h : fn.results = #[.cell p 63]) (tmps : Array Value) (w : World) (g : Nat) (T : TypeId) (a b c : Value) (z : Nat × Nat) (hp : tmps.getD p undef = .pointer (some ⟨g, 0, none⟩)) (hg : Has w g (.cells #[a, b, c] T z)) :
    (results fn tmps).run Try.prog w = .ok (.agg #[a, b, c]) w := results_cell_row h tmps w g T #[a, b, c] z _ hp hg Try.underlying63 rfl (by rw [size63]; rfl)
/-- what a canvas shows, as a value -/
def CShow (c : Cv) (w : World) (e : Ending) (w' : World) : Prop := ∃ ad cap, e = .returned (.agg #[intV c.w, intV c.h, .slice ad c.Ts.length cap]) ∧ TilRow w' ad c.Ts ∧ (ad = none → c.Ts = [] ∧ cap = 0) ∧ (∀ a, ad = some a → ∃ g, a = ⟨g, 0, none⟩ ∧ w.heap.size ≤ g) ∧ c.Ts.length ≤ cap ∧ Below w.heap.size w w'
set_option maxRecDepth 100000 in
set_option maxHeartbeats 1000000 in
theorem show_nil (w : World) : Calls Try.prog 61 #[.pointer none] w fun e w' => e = .returned (.agg #[intV 0, intV 0, .slice none 0 0]) ∧ Below w.heap.size w w' := by
  go_enter Try.func61, Try.ntmps61
  go_wp2
  exact bodyPost_ret (v := .agg #[intV 0, intV 0, .slice none 0 0]) (res63 (fn := Try.f61) (p := 2) Try.results61 _ _ w.heap.size 63 _ _ _ (0, 0) rfl (Has.new _ _)) rfl ⟨rfl, (Since.refl w).alloc _⟩
set_option maxRecDepth 100000 in
set_option maxHeartbeats 2000000 in
theorem show_any (b : Nat) (c : Cv) (w : World) (hc : CvAt w b c) : Calls Try.prog 61 #[ptrV b] w (CShow c w) := by
  obtain ⟨g, cap, k⟩ := hc
  have K := Lib.hid k
  have lb := k.rec_.lt
  clear k
  go_enter Try.func61, Try.ntmps61
  go_wp2
  refine wp_region_sched [(0, false), (1, false), (2, false), (3, false), (4, false), (5, false), (6, false), (7, false), (8, false), (9, false), (10, false), (11, false), (12, false), (13, false), (14, true), (15, false), (16, true)] (Since w) (by kernel_rfl) (by kernel_rfl) ((Since.refl w).alloc _).drew ?_
  repeat (refine sched_pure (v := ?_) rfl rfl ?_ ?_; rotate_left; (focus (intro Y hY; have y0 := (K.out.rec_.since hY).three; go_simp; try with_reducible rfl)); go_simp; try go_bits)
  refine sched_act rfl rfl ?_
  go_simp
  have s0 : Since w (w.alloc (.cells #[.int .i64 0, .int .i64 0, .slice none 0 0] 63)).drew := ((Since.refl w).alloc _).drew
  have o0 := (Has.new w (.cells #[.int .i64 0, .int .i64 0, .slice none 0 0] 63 (0, 0))).drew
  refine (madet_any g cap c.ps c.Ts _ (K.out.ps_.since s0) (K.out.ts_.since s0) (by rw [K.out.ok.np, K.out.ok.nt]) (by rw [K.out.ok.np]; exact K.out.ok.le16.2) K.out.ok.l64 K.out.ok.by_).mono ?_
  rintro e w1 ⟨ad', cap', rfl, hrow, hnil, hfr, hcap, s1⟩
  refine ⟨s0.trans s1, ?_⟩
  have o1 := o0.since s1
  have q1 := o1.three
  have f1 := (o1.free 0)
  have f2 := (o1.free 1)
  have f3 := (o1.free 2)
  have l1 := o1.lt
  have S1 := Lib.hid (And.intro (s0.trans s1) (And.intro o1 (And.intro hrow (And.intro hnil (And.intro hfr hcap)))))
  clear s0 o0 s1 o1 hrow hnil hfr hcap
  repeat (refine sched_pure (v := ?_) rfl rfl ?_ ?_; rotate_left; (focus (intro Y hY; go_simp; try with_reducible rfl)); go_simp; try go_bits)
  refine sched_act rfl rfl ?_
  go_simp
  have sF : Since w (((w1.setCell ⟨w.heap.size, 0, none⟩ (intV c.w)).setCell ⟨w.heap.size, 1, none⟩ (intV c.h)).setCell ⟨w.heap.size, 2, none⟩ (.slice ad' c.Ts.length cap')) := ((S1.out.1.setCell _ (by simp)).setCell _ (by simp)).setCell _ (by simp)
  refine ⟨sF, ?_⟩
  refine sched_end ?_
  go_wp2
  obtain ⟨s1, o1, hrow, hnil, hfr, hcap⟩ := S1.out
  refine bodyPost_ret (v := .agg #[intV c.w, intV c.h, .slice ad' c.Ts.length cap']) (res63 (fn := Try.f61) (p := 2) Try.results61 _ _ w.heap.size 63 _ _ _ (0, 0) rfl (o1.put3 _ _ _)) rfl ⟨ad', cap', rfl, hrow.grew (grew_put3 (Grew.refl [w.heap.size] w1) (.inl (by simp)) _ _ _) (fun a e => ?_), hnil, fun a e => ?_, hcap, sF⟩
  · obtain ⟨g', rfl, hg'⟩ := hfr a e
    simp at hg' ⊢; omega
  · obtain ⟨g', rfl, hg'⟩ := hfr a e
    exact ⟨g', rfl, by simp at hg'; omega⟩
end Go.Proofs.Ytedckelfdkfkoaa
