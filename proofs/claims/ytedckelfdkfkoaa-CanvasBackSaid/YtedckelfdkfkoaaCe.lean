/- Walks: do two canvases show the same? -/
import Derived.Test.YtedckelfdkfkoaaCs
namespace Go.Proofs.Ytedckelfdkfkoaa
open Go.RowKit Go.Shelf
attribute [local go_sem] Oper.semAt_some
attribute [local go_sem 2000] run_col run_tile run_sz
attribute [local go_sem ↓] Go.wp_at_zero Go.wp_at_succ
attribute [local go_sem ↓] zero25 build25 build176z build176 load25 store25
attribute [local go_sem] rowAt_alloc rowFree_alloc rowAt_drew rowFree_drew zeroA_size zc176 zeroA_ones blkOf_ptr aggOf_agg

theorem tileA_inj {T T' : List Col} (h : tileA T = tileA T') : T = T' := by
  have hl : T.length = T'.length := by
    have := congrArg Array.size h
    rw [tileA_size, tileA_size] at this
    omega
  refine tile_ext hl fun k hk => ?_
  obtain ⟨a0, a1, a2, a3⟩ := tile_at hk
  obtain ⟨b0, b1, b2, b3⟩ := tile_at (T := T') (k := k) (by omega)
  rw [h] at a0 a1 a2 a3
  have e0 := a0.symm.trans b0
  have e1 := a1.symm.trans b1
  have e2 := a2.symm.trans b2
  have e3 := a3.symm.trans b3
  simp only [Option.some.injEq, Value.int.injEq, true_and] at e0 e1 e2 e3
  exact Prod.ext e0 (Prod.ext e1 (Prod.ext e2 e3))
theorem has_tile_eq {W : World} {p : Nat} {T T' : List Col} {ta tb : TypeId} {z z' : Nat × Nat} (h : Has W p (.cells (tileA T) ta z)) (h' : Has W p (.cells (tileA T') tb z')) : T = T' := by
  have := Option.some.inj ((show W.heap[p]? = _ from h).symm.trans h')
  injection this with h1
  exact tileA_inj h1

set_option maxRecDepth 100000 in
set_option maxHeartbeats 1000000 in
theorem same1_any (p q : Nat) (T T' : List Col) (w : World) (lT : T.length = 64) (lT' : T'.length = 64) (hp : Has w p (.cells (tileA T) 25 (0, 0))) (hq : Has w q (.cells (tileA T') 25 (0, 0))) :
    Calls Try.prog 149 #[ptrV p, ptrV q] w fun e w' => e = .returned (.bool (decide (T = T'))) ∧ Below w.heap.size w w' := by
  have hs : (tileA T).size = 256 := by rw [tileA_size, lT]
  have hs' : (tileA T').size = 256 := by rw [tileA_size, lT']
  have hpt := fun Y (hY : Since w Y) => run_ptr (hp.since hY) (hq.since hY)
  have R0 := Lib.hid hp.rowS
  have R1 := Lib.hid hq.rowS
  by_cases hpq : p = q
  · subst hpq
    obtain rfl := has_tile_eq hp hq
    simp only [decide_true] at hpt
    have HPT := Lib.hid hpt
    clear hp hq hpt
    go_enter Try.func149, Try.ntmps149
    go_wp2
    refine wp_region_sched [(0, false), (1, false), (2, false), (3, false), (4, false), (5, false), (6, false), (7, false), (8, false), (9, false), (10, false), (11, false), (12, false)] (Since w) (by kernel_rfl) (by kernel_rfl) (Since.refl w).drew ?_
    iterate 13 (first | (refine sched_idle rfl rfl (Since.refl w).drew ?_; go_simp) | (refine sched_pure (v := ?_) rfl rfl ?_ ?_; rotate_left; (focus (intro Y hY; have h0 := HPT.out Y hY; go_simp; try with_reducible rfl)); go_simp; try go_bits))
    refine sched_end ?_
    go_wp2
    go_ret
    exact ⟨by simp, (Since.refl w).drew⟩
  · simp only [decide_eq_false hpq] at hpt
    have HPT := Lib.hid hpt
    clear hp hq hpt hpq
    go_enter Try.func149, Try.ntmps149
    go_wp2
    refine wp_region_sched [(0, false), (1, false), (2, false), (3, false), (4, false), (5, false), (6, false), (7, false), (8, false), (9, false), (10, false), (11, false), (12, false)] (Since w) (by kernel_rfl) (by kernel_rfl) (Since.refl w).drew ?_
    repeat (refine sched_pure (v := ?_) rfl rfl ?_ ?_; rotate_left; (focus (intro Y hY; first | (refine (exec_tile (R0.out Y hY) hs rfl).trans ?_; with_reducible rfl) | (refine (exec_tile (R1.out Y hY) hs' rfl).trans ?_; with_reducible rfl) | (have h0 := HPT.out Y hY; go_simp; try with_reducible rfl))); go_simp; try go_bits)
    refine sched_end ?_
    go_wp2
    go_ret
    exact ⟨rfl, (Since.refl w).drew⟩

set_option maxRecDepth 100000 in
set_option maxHeartbeats 2000000 in
theorem eqfunc_any (g g' cap cap' : Nat) (ps qs : List Nat) (Ts Ts' : List (List Col)) (w : World) (h1 : PsAt w g ps) (h2 : PsAt w g' qs) (h3 : TsAt w ps Ts) (h4 : TsAt w qs Ts')
    (n1 : ps.length = Ts.length) (n2 : qs.length = Ts'.length) (n3 : ps.length = qs.length) (n16 : ps.length ≤ 16) (l1 : ∀ T ∈ Ts, T.length = 64) (l2 : ∀ T ∈ Ts', T.length = 64) :
    Calls Try.prog 148 #[.slice (some ⟨g, 0, none⟩) ps.length cap, .slice (some ⟨g', 0, none⟩) qs.length cap', .func (.func 149) #[] #[]] w fun e w' => e = .returned (.bool (decide (Ts = Ts'))) ∧ Below w.heap.size w w' := by
  obtain ⟨m, hm⟩ : ∃ m, ps.length = m := ⟨_, rfl⟩
  rw [hm] at n1 n3 n16
  rw [← n3, hm]
  have H := Lib.hid (And.intro hm (And.intro n1 (And.intro n2 (And.intro n3 (And.intro h1 (And.intro h2 (And.intro h3 (And.intro h4 (And.intro l1 l2)))))))))
  have en' : ∀ args w, (callFunc 149 args).run Try.prog w = .ok (.enter 149 args) w := enters_of Try.func149 (by kernel_rfl) rfl
  have En := Lib.hid en'
  clear hm n1 n2 n3 h1 h2 h3 h4 l1 l2 en'
  go_enter Try.func148, Try.ntmps148
  go_wp2
  go_loopg [17] m (fun n i wr => ∃ k : Nat, k ≤ m ∧ n = m - k ∧ i = .int .i64 k ∧ (∀ j : Nat, j < k → Ts[j]? = Ts'[j]?) ∧ Since w wr)
  case atStart => exact ⟨0, by omega, by omega, rfl, fun j hj => by omega, Since.refl _⟩
  case round =>
    obtain ⟨k, hk, hn, rfl, he, hj⟩ := hrel
    obtain ⟨hm, n1, n2, n3, h1, h2, h3, h4, l1, l2⟩ := H.out
    by_cases hlt : k < m
    · obtain ⟨p, hp⟩ : ∃ p, ps[k]? = some p := ⟨_, List.getElem?_eq_getElem (by omega)⟩
      obtain ⟨q, hq⟩ : ∃ q, qs[k]? = some q := ⟨_, List.getElem?_eq_getElem (by omega)⟩
      obtain ⟨T, hT⟩ : ∃ T, Ts[k]? = some T := ⟨_, List.getElem?_eq_getElem (by omega)⟩
      obtain ⟨T', hT'⟩ : ∃ T, Ts'[k]? = some T := ⟨_, List.getElem?_eq_getElem (by omega)⟩
      have c0 := cell_since (h1 k p hp) hj
      have c1 := cell_since (h2 k q hq) hj
      have hsm := same1_any p q T T' wr (l1 T (List.mem_of_getElem? hT)) (l2 T' (List.mem_of_getElem? hT')) ((h3 k p T hp hT).since hj) ((h4 k q T' hq hT').since hj)
      have J := Lib.hid (And.intro hn (And.intro he (And.intro hj (And.intro hT hT'))))
      clear hn he hj hT hT' hp hq hm n1 n2 n3 h1 h2 h3 h4 l1 l2
      have en' := En.out
      by_cases hTT : T = T'
      · rw [decide_eq_true hTT] at hsm
        have HS := Lib.hid (And.intro hsm hTT)
        clear hsm hTT
        go_wp2_with (fail)
        refine HS.out.1.mono ?_
        rintro e w1 ⟨rfl, b1⟩
        have J1 := Lib.hid (J.out.2.2.1.step b1)
        clear c0 c1 en' b1
        go_wp2
        go_roundg (m - (k + 1))
        case measure => have := J.out.1; omega
        case rel =>
          refine ⟨k + 1, hlt, rfl, by go_num, fun j hj => ?_, J1.out⟩
          rcases Nat.lt_or_ge j k with h | h
          · exact J.out.2.1 j h
          · obtain rfl : j = k := by omega
            rw [J.out.2.2.2.1, J.out.2.2.2.2, HS.out.2]
      · rw [decide_eq_false hTT] at hsm
        have HS := Lib.hid (And.intro hsm hTT)
        clear hsm hTT
        go_wp2_with (fail)
        refine HS.out.1.mono ?_
        rintro e w1 ⟨rfl, b1⟩
        have J1 := Lib.hid (J.out.2.2.1.step b1)
        clear c0 c1 en' b1
        go_wp2
        go_ret
        refine ⟨congrArg (fun b => Ending.returned (Value.bool b)) (Eq.symm (decide_eq_false fun e => HS.out.2 ?_)), J1.out⟩
        have e1 := J.out.2.2.2.1
        rw [e] at e1
        exact Option.some.inj (e1.symm.trans J.out.2.2.2.2)
    · obtain rfl : k = m := by omega
      have J := Lib.hid (And.intro he hj)
      clear he hj hn hm n1 n2 n3 h1 h2 h3 h4 l1 l2
      go_wp2
      go_ret
      refine ⟨congrArg (fun b => Ending.returned (Value.bool b)) (Eq.symm (decide_eq_true ?_)), J.out.2⟩
      obtain ⟨hm, n1, n2, n3, _⟩ := H.out
      apply List.ext_getElem?
      intro j
      rcases Nat.lt_or_ge j k with h | h
      · exact J.out.1 j h
      · rw [List.getElem?_eq_none (by omega), List.getElem?_eq_none (by omega)]

/-- do two show the same? -/
def csame (c d : Cv) : Bool := decide (c.w = d.w ∧ c.h = d.h ∧ c.Ts = d.Ts)
set_option maxRecDepth 100000 in
set_option maxHeartbeats 2000000 in
theorem csame_any (b b' : Nat) (c d : Cv) (w : World) (hc : CvAt w b c) (hd : CvAt w b' d) :
    Calls Try.prog 62 #[ptrV b, ptrV b'] w fun e w' => e = .returned (.bool (csame c d)) ∧ Below w.heap.size w w' := by
  obtain ⟨g, cap, k⟩ := hc
  obtain ⟨g', cap', k'⟩ := hd
  have K := Lib.hid (And.intro k k')
  by_cases hsz : c.w = d.w ∧ c.h = d.h
  · have e0 : csame c d = decide (c.Ts = d.Ts) := by unfold csame; rw [decide_eq_decide]; simp [hsz]
    rw [e0]
    have hs : szB c.w c.h d.w d.h = true := by unfold szB; rw [hsz.1, hsz.2]; simp
    have n3 : c.ps.length = d.ps.length := by rw [k.ok.np, k'.ok.np, hsz.1, hsz.2]
    have HN := Lib.hid n3
    clear k k' e0 hsz n3
    go_enter Try.func62, Try.ntmps62
    go_wp2
    refine wp_region_sched [(0, false), (1, false), (2, false), (3, false), (4, false), (5, false), (6, false), (7, false), (8, false), (9, false), (10, false), (11, false), (12, false), (13, false), (14, false), (15, false), (16, false), (17, false), (18, true), (19, false), (20, false)] (Since w) (by kernel_rfl) (by kernel_rfl) (Since.refl w).drew ?_
    repeat (refine sched_pure (v := ?_) rfl rfl ?_ ?_; rotate_left; (focus (intro Y hY; have y0 := (K.out.1.rec_.since hY).three; have y1 := (K.out.2.rec_.since hY).three; go_simp; try with_reducible rfl)); go_simp; try go_bits)
    refine sched_act rfl rfl ?_
    go_simp
    have sd : Since w w.drew := (Since.refl w).drew
    refine (eqfunc_any g g' cap cap' c.ps d.ps c.Ts d.Ts _ (K.out.1.ps_.since sd) (K.out.2.ps_.since sd) (K.out.1.ts_.since sd) (K.out.2.ts_.since sd) (by rw [K.out.1.ok.np, K.out.1.ok.nt]) (by rw [K.out.2.ok.np, K.out.2.ok.nt]) HN.out (by rw [K.out.1.ok.np]; exact K.out.1.ok.le16.2) K.out.1.ok.l64 K.out.2.ok.l64).mono ?_
    rintro e w1 ⟨rfl, b1⟩
    have s1 := sd.step b1
    refine ⟨s1, ?_⟩
    have S1 := Lib.hid s1
    clear hs sd b1 s1
    obtain ⟨bb, hbb⟩ : ∃ bb, decide (c.Ts = d.Ts) = bb := ⟨_, rfl⟩
    rw [hbb]
    have HB := Lib.hid hbb
    clear hbb
    repeat (refine sched_pure (v := ?_) rfl rfl ?_ ?_; rotate_left; (focus (intro Y hY; go_simp; try with_reducible rfl)); go_simp; try go_bits)
    refine sched_end ?_
    go_wp2
    go_ret
    exact ⟨by rw [HB.out]; rfl, S1.out⟩
  · have e0 : csame c d = false := by unfold csame; rw [decide_eq_false]; rintro ⟨h1, h2, _⟩; exact hsz ⟨h1, h2⟩
    rw [e0]
    have hs : szB c.w c.h d.w d.h = false := by unfold szB; simp; omega
    clear k k' e0 hsz
    go_enter Try.func62, Try.ntmps62
    go_wp2
    refine wp_region_sched [(0, false), (1, false), (2, false), (3, false), (4, false), (5, false), (6, false), (7, false), (8, false), (9, false), (10, false), (11, false), (12, false), (13, false), (14, false), (15, false), (16, false), (17, false), (18, true), (19, false), (20, false)] (Since w) (by kernel_rfl) (by kernel_rfl) (Since.refl w).drew ?_
    iterate 21 (first | (refine sched_idle rfl rfl (Since.refl w).drew ?_; go_simp) | (refine sched_pure (v := ?_) rfl rfl ?_ ?_; rotate_left; (focus (intro Y hY; have y0 := (K.out.1.rec_.since hY).three; have y1 := (K.out.2.rec_.since hY).three; go_simp; try with_reducible rfl)); go_simp; try go_bits))
    refine sched_end ?_
    go_wp2
    go_ret
    exact ⟨rfl, (Since.refl w).drew⟩
set_option maxRecDepth 100000 in
set_option maxHeartbeats 1000000 in
theorem csame_nn (w : World) : Calls Try.prog 62 #[.pointer none, .pointer none] w fun e w' => e = .returned (.bool true) ∧ Below w.heap.size w w' := by
  go_enter Try.func62, Try.ntmps62
  go_wp2
  go_ret
  exact ⟨rfl, Below.refl _ _⟩
set_option maxRecDepth 100000 in
set_option maxHeartbeats 1000000 in
theorem csame_np (b : Nat) (w : World) : Calls Try.prog 62 #[.pointer none, ptrV b] w fun e w' => e = .returned (.bool false) ∧ Below w.heap.size w w' := by
  have h0 : ∀ w, (binOp .eql 66 (.pointer none) (ptrV b)).run Try.prog w = .ok (.bool false) w := fun _ => by kernel_rfl
  go_enter Try.func62, Try.ntmps62
  go_wp2
  go_ret
  exact ⟨rfl, Below.refl _ _⟩
set_option maxRecDepth 100000 in
set_option maxHeartbeats 1000000 in
theorem csame_pn (b : Nat) (w : World) : Calls Try.prog 62 #[ptrV b, .pointer none] w fun e w' => e = .returned (.bool false) ∧ Below w.heap.size w w' := by
  go_enter Try.func62, Try.ntmps62
  go_wp2
  go_ret
  exact ⟨rfl, Below.refl _ _⟩
end Go.Proofs.Ytedckelfdkfkoaa
