/- Walks: which canvases may be; the canvas that shows something. -/
import Derived.Test.YtedckelfdkfkoaaTa
import Derived.Test.YtedckelfdkfkoaaCk
import Derived.Test.YtedckelfdkfkoaaJc
namespace Go.Proofs.Ytedckelfdkfkoaa
open Go.RowKit Go.Shelf
attribute [local go_sem] Oper.semAt_some
attribute [local go_sem 2000] run_col run_tile
attribute [local go_sem ↓] Go.wp_at_zero Go.wp_at_succ
attribute [local go_sem ↓] zero25 build25 build176z build176 load25 store25
attribute [local go_sem] World.setRow_alloc_new
attribute [local go_sem] rowAt_alloc rowFree_alloc rowAt_drew rowFree_drew zeroA_size zc176 zeroA_ones blkOf_ptr aggOf_agg

/-- may a canvas show this? -/
def rightB (x y : Int) (n : Nat) : Bool := mayB x y && decide ((n : Int) = x * y)
theorem rightB_nat {x y : Int} {n : Nat} (h : rightB x y n = true) : ∃ a b : Nat, x = (a : Int) ∧ y = (b : Int) ∧ 1 ≤ a ∧ a ≤ 4 ∧ 1 ≤ b ∧ b ≤ 4 ∧ n = a * b := by
  simp only [rightB, Bool.and_eq_true, decide_eq_true_eq] at h
  have h1 := mayB_iff.1 h.1
  obtain ⟨a, rfl⟩ := Int.eq_ofNat_of_zero_le (show 0 ≤ x by omega)
  obtain ⟨b, rfl⟩ := Int.eq_ofNat_of_zero_le (show 0 ≤ y by omega)
  refine ⟨a, b, rfl, rfl, by omega, by omega, by omega, by omega, ?_⟩
  have := h.2
  exact_mod_cast this

def errC (b : Bool) : Int := if b = true then 0 else 150
set_option maxRecDepth 100000 in
set_option maxHeartbeats 1000000 in
theorem check_any (x y : Int) (ad : Option Addr) (n cap : Nat) (w : World) (hn : n ≤ maxLen) :
    Calls Try.prog 63 #[.agg #[.int .i64 x, .int .i64 y, .slice ad n cap]] w fun e w' => e = .returned (.int .i64 (errC (rightB x y n))) ∧ Below w.heap.size w w' := by
  unfold maxLen at hn
  cases hB : mayB x y with
  | false =>
    have e0 : rightB x y n = false := by unfold rightB; rw [hB]; rfl
    rw [e0]
    have HB := Lib.hid hB
    clear e0 hB
    go_enter Try.func63, Try.ntmps63
    go_wp2_with (fail)
    refine (may_any x y _).mono ?_
    rintro e w1 ⟨rfl, b1⟩
    rw [HB.out]
    have S1 := Lib.hid ((((Since.refl w).alloc _).alloc _).step b1)
    clear b1
    go_wp2
    go_ret
    exact ⟨rfl, S1.out⟩
  | true =>
    have h' := mayB_iff.1 hB
    obtain ⟨a, rfl⟩ := Int.eq_ofNat_of_zero_le (show 0 ≤ x by omega)
    obtain ⟨b, rfl⟩ := Int.eq_ofNat_of_zero_le (show 0 ≤ y by omega)
    obtain ⟨m, hm⟩ : ∃ m, a * b = m := ⟨_, rfl⟩
    have m16 : m ≤ 16 := by rw [← hm]; exact Nat.mul_le_mul (show a ≤ 4 by omega) (show b ≤ 4 by omega)
    have hxy : (a : Int) * (b : Int) = (m : Int) := by rw [← hm]; push_cast; rfl
    have e0 : rightB a b n = decide ((n : Int) = (m : Int)) := by unfold rightB; rw [hB, hxy]; rfl
    rw [e0]
    have HB := Lib.hid hB
    clear e0 hB hm h'
    by_cases hnm : n = m
    · subst hnm
      go_enter Try.func63, Try.ntmps63
      go_wp2_with (fail)
      refine (may_any a b _).mono ?_
      rintro e w1 ⟨rfl, b1⟩
      rw [HB.out]
      have d1 := (((Has.new w (.cells #[.int .i64 (a : Int), .int .i64 (b : Int), .slice ad n cap] 63 (0, 0))).alloc (.cells #[.int .i64 (a : Int), .int .i64 (b : Int)] 186)).below b1 (by simp <;> omega))
      have d2 := ((Has.new' (W := w.alloc (.cells #[.int .i64 (a : Int), .int .i64 (b : Int), .slice ad n cap] 63)) (r := w.heap.size + 1) (o := .cells #[.int .i64 (a : Int), .int .i64 (b : Int)] 186 (0, 0)) (by simp)).below b1 (by simp <;> omega))
      have q1 := d1.three
      have q2 := d2.two
      have l1 := d2.lt
      have S1 := Lib.hid ((((Since.refl w).alloc (.cells #[.int .i64 (a : Int), .int .i64 (b : Int), .slice ad n cap] 63)).alloc (.cells #[.int .i64 (a : Int), .int .i64 (b : Int)] 186)).step b1)
      clear b1 d1 d2
      go_wp2
      go_ret
      exact ⟨by simp [errC], S1.out⟩
    · have hne : ((n : Int) != (m : Int)) = true := by simp; omega
      have HN := Lib.hid (show decide ((n : Int) = (m : Int)) = false by simp; omega)
      clear hnm
      go_enter Try.func63, Try.ntmps63
      go_wp2_with (fail)
      refine (may_any a b _).mono ?_
      rintro e w1 ⟨rfl, b1⟩
      rw [HB.out]
      have d1 := (((Has.new w (.cells #[.int .i64 (a : Int), .int .i64 (b : Int), .slice ad n cap] 63 (0, 0))).alloc (.cells #[.int .i64 (a : Int), .int .i64 (b : Int)] 186)).below b1 (by simp <;> omega))
      have d2 := ((Has.new' (W := w.alloc (.cells #[.int .i64 (a : Int), .int .i64 (b : Int), .slice ad n cap] 63)) (r := w.heap.size + 1) (o := .cells #[.int .i64 (a : Int), .int .i64 (b : Int)] 186 (0, 0)) (by simp)).below b1 (by simp <;> omega))
      have q1 := d1.three
      have q2 := d2.two
      have l1 := d2.lt
      have S1 := Lib.hid ((((Since.refl w).alloc (.cells #[.int .i64 (a : Int), .int .i64 (b : Int), .slice ad n cap] 63)).alloc (.cells #[.int .i64 (a : Int), .int .i64 (b : Int)] 186)).step b1)
      clear b1 d1 d2
      go_wp2
      go_ret
      exact ⟨by rw [HN.out]; rfl, S1.out⟩

set_option maxHeartbeats 400000 in
theorem of1_any (A : Array Value) (w : World) : Calls Try.prog 140 #[.agg A] w fun e w' => e = .returned (ptrV w.heap.size) ∧ w' = w.alloc (.cells A 25) := by
  go_enter Try.func140, Try.ntmps140
  go_wp2
  go_ret
  exact ⟨rfl, rfl⟩

theorem ptrs_one (l : List Nat) : ∀ u ∈ l.map ptrV, u.oneCell' = true := by
  intro u hu
  obtain ⟨p, _, rfl⟩ := List.mem_map.1 hu
  rfl
theorem own_ne {W : World} {base s n : Nat} {v : Value} {xs : List Value} {q : Nat} {A : Array Value} {z : Nat × Nat} (h : W.ownsRow base 183 s v n xs) (hq : Has W q (.cells A 25 z)) : some q ≠ v.ownBlock := by
  intro e
  rcases h.2 with ⟨rfl, _⟩ | ⟨g, cap, cur, rfl, _, hg, _⟩
  · simp [Value.ownBlock] at e
  · simp [Value.ownBlock] at e
    subst e
    have := (show W.heap[q]? = _ from hq).symm.trans hg
    simp at this
/-- the state of the loop of made -/
structure MdSt (L : List (List Col)) (n₀ k : Nat) (w wr : World) (v : Value) (ps : List Nat) : Prop where
  kle : k ≤ L.length
  np : ps.length = k
  own : wr.ownsRow n₀ 183 1 v k (ps.map ptrV)
  ts : TsAt wr ps (L.take k)
  low : ∀ p ∈ ps, n₀ ≤ p
  sw : Since w wr
def Made (L : List (List Col)) (w : World) (e : Ending) (w' : World) : Prop := ∃ ad cap ps, e = .returned (.slice ad L.length cap) ∧ ps.length = L.length ∧ (∀ (i p : Nat), ps[i]? = some p → ∃ g, ad = some ⟨g, 0, none⟩ ∧ w'.cell? ⟨g, i, none⟩ = some (ptrV p)) ∧ TsAt w' ps L ∧ (∀ p ∈ ps, w.heap.size ≤ p) ∧ L.length ≤ cap ∧ Since w w'
set_option maxRecDepth 100000 in
set_option maxHeartbeats 2000000 in
theorem made_any (ad : Option Addr) (cap : Nat) (L : List (List Col)) (w : World) (hL : TilRow w ad L) (n1000 : L.length ≤ 1000) :
    Calls Try.prog 139 #[.slice ad L.length cap, .func (.func 140) #[] #[]] w (Made L w) := by
  generalize hm : L.length = m at *
  obtain ⟨i0, hi, hz0, hz1, hz2⟩ := info183
  have A := Lib.hid (And.intro hm hL)
  have en' : ∀ args w, (callFunc 140 args).run Try.prog w = .ok (.enter 140 args) w := enters_of Try.func140 (by kernel_rfl) rfl
  have En := Lib.hid en'
  clear hm hL en'
  go_enter Try.func139, Try.ntmps139
  go_wp2
  go_loopg [5, 10] m (fun n v i wr => ∃ (k : Nat) (ps : List Nat), n = m - k ∧ i = .int .i64 k ∧ MdSt L w.heap.size k w wr v ps)
  case atStart => exact ⟨0, [], by omega, rfl, by omega, rfl, ⟨rfl, .inl ⟨rfl, rfl⟩⟩, fun i p T hp => by simp at hp, by simp, Since.refl _⟩
  case round =>
    obtain ⟨k, ps, hn, rfl, hst⟩ := hrel
    have hk := hst.kle
    rw [A.out.1] at hk
    by_cases hlt : k < m
    · obtain ⟨T, hT⟩ : ∃ T, L[k]? = some T := ⟨_, List.getElem?_eq_getElem (by rw [A.out.1]; exact hlt)⟩
      obtain ⟨a, rfl, q⟩ := (A.out.2.since hst.sw).at_ k T hT
      have lT := A.out.2.l64 T (List.mem_of_getElem? hT)
      have hs : (tileA T).size = 256 := by rw [tileA_size, lT]
      have ho := onesB_tile T
      have S := Lib.hid (And.intro hn (And.intro hst (And.intro hT q)))
      have en' := En.out
      obtain ⟨AT, hAT⟩ : ∃ AT, tileA T = AT := ⟨_, rfl⟩
      rw [hAT] at hs ho
      have HAT := Lib.hid hAT
      clear hn hst hT q hAT
      go_wp2_with ((with_reducible refine wpList_load_til rfl (.tmp 12) rfl (a.add (k * 256)) T lT S.out.2.2.2 ?_ ?_); (exact rfl); (rw [HAT.out]))
      refine (of1_any AT _).mono ?_
      rintro e w1 ⟨rfl, rfl⟩
      clear en'
      obtain ⟨p, hp⟩ : ∃ p, (wr.alloc (.cells AT 25)).heap.size = p := ⟨_, rfl⟩
      rw [hp]
      have hp' : wr.heap.size + 1 = p := by rw [← hp, World.size_alloc]
      generalize hW : World.alloc _ _ = W
      have oW := (S.out.2.1.own.alloc (.cells AT 25)).alloc (.cells AT 25)
      rw [hW] at oW
      have sW : Since wr W := by rw [← hW]; exact ((Since.refl wr).alloc _).alloc _
      have tW : Has W p (.cells (tileA T) 25 (0, 0)) := by rw [← hW, HAT.out]; exact Has.new' hp.symm
      have H := Lib.hid (And.intro oW (And.intro sW (And.intro tW hp')))
      have k1000 : k < 1000 := by omega
      have lo : w.heap.size ≤ W.heap.size := by have := S.out.2.1.sw.size; have := sW.size; omega
      have news : ∀ j u, ([ptrV p] : List Value)[j]? = some u → (W.alloc (.cells #[ptrV p] 183)).cell? ((⟨W.heap.size, 0, none⟩ : Addr).add j) = some u := by
        intro j u hj
        match j, hj with
        | 0, hj => cases hj; exact (Has.new W _).cell 0
        | j + 1, hj => simp at hj
      have NW := Lib.hid news
      clear hW oW sW tW hp hp' news hs ho
      go_wp2_with (at_builtin; refine wpList_append_own _ rfl _ _ 181 rfl w.heap.size 183 i0 (.pointer none) 1 8 (by kernel_rfl) hi hz0 hz1 hz2 rfl (by omega) _ k (ps.map ptrV) rfl (H.out.1.alloc _) ⟨W.heap.size, 0, none⟩ 1 1 [ptrV p] rfl rfl NW.out (ptrs_one [p]) ?b1 ?b2 ?b3 ?_)
      case b1 => unfold maxLen; omega
      case b2 => omega
      case b3 => simp; omega
      intro v' w4 hO4 hg4 _
      have H4 := Lib.hid (And.intro hO4 hg4)
      clear hO4 hg4
      go_wp2
      obtain ⟨hn, hst, hT, q⟩ := S.out
      obtain ⟨oW, sW, tW, hp'⟩ := H.out
      obtain ⟨hO4, hg4⟩ := H4.out
      go_roundg (m - (k + 1))
      case measure => omega
      case rel =>
        have keep : ∀ (q : Nat) (o : Obj), w.heap.size ≤ q ∨ True → some q ≠ u5.ownBlock → Has W q o → Has w4 q o := fun q o _ hq ho => (ho.alloc (.cells #[ptrV p] 183)).kept hg4 hq
        have hown : ∀ g, u5.ownBlock = some g → g < wr.heap.size := fun g e => (hst.own.lt _ e).2
        have pnew : some p ≠ u5.ownBlock := fun e => by have := hown p e.symm; omega
        refine ⟨k + 1, ps ++ [p], rfl, by go_num, by rw [A.out.1]; exact hlt, by simp [hst.np], by rw [List.map_append]; exact hO4, ?_, ?_, ?_⟩
        · intro i q' T' hq' hT'
          rw [← take_snoc hT] at hT'
          have hlk : (L.take k).length = k := by rw [List.length_take, A.out.1]; omega
          by_cases hik : i < k
          · rw [List.getElem?_append_left (by rw [hst.np]; exact hik)] at hq'
            rw [List.getElem?_append_left (by rw [hlk]; exact hik)] at hT'
            exact keep q' _ (.inr trivial) (own_ne hst.own (hst.ts i q' T' hq' hT')) ((hst.ts i q' T' hq' hT').since sW)
          · rw [List.getElem?_append_right (by rw [hst.np]; omega), hst.np] at hq'
            rw [List.getElem?_append_right (by rw [hlk]; omega), hlk] at hT'
            have h0 : i - k = 0 := by
              have := (List.getElem?_eq_some_iff.1 hq').1
              simp at this; omega
            rw [h0] at hq' hT'
            simp at hq' hT'
            subst hq'; subst hT'
            exact keep p _ (.inr trivial) pnew tW
        · intro q' hq'
          rcases List.mem_append.1 hq' with h | h
          · exact hst.low q' h
          · simp at h; subst h; have := hst.sw.size; omega
        · exact (hst.sw.trans (sW.alloc (.cells #[ptrV p] 183))).grown1 hg4 (fun g e => by have := (hst.own.lt _ e).1; omega)
    · obtain rfl : k = m := by omega
      have hO := hst.own
      have e1 : L.take k = L := List.take_of_length_le (by rw [A.out.1]; exact Nat.le_refl _)
      have ht := hst.ts
      rw [e1] at ht
      have J := Lib.hid (And.intro hst.np (And.intro hO (And.intro ht (And.intro hst.low hst.sw))))
      clear hn hst ht e1
      rcases hO.2 with ⟨rfl, h0⟩ | ⟨g, cap', cur, rfl, hbg, hg, hcap, _, _, htk⟩
      · have h0' : k = 0 := h0
        clear hO
        go_wp2
        go_ret
        obtain ⟨np, hO, ht, low, sw⟩ := J.out
        exact ⟨none, 0, ps, by rw [A.out.1, h0']; rfl, by rw [np, A.out.1], fun i p hp => by have := (List.getElem?_eq_some_iff.1 hp).1; omega, ht, low, by rw [A.out.1]; omega, sw⟩
      · clear hO htk hg
        have HC := Lib.hid hcap
        clear hcap
        go_wp2
        go_ret
        obtain ⟨np, hO, ht, low, sw⟩ := J.out
        refine ⟨some ⟨g, 0, none⟩, cap', ps, by rw [A.out.1]; rfl, by rw [np, A.out.1], fun i p hp => ⟨g, rfl, ?_⟩, ht, low, by rw [A.out.1]; exact HC.out, sw⟩
        have hc := hO.cells (g := g) rfl i (ptrV p) (by rw [List.getElem?_map, hp]; rfl)
        rwa [Addr.add_mid, Nat.zero_add] at hc

set_option maxRecDepth 100000 in
set_option maxHeartbeats 1000000 in
theorem cof_no (x y : Int) (ad : Option Addr) (n cap : Nat) (w : World) (hn : n ≤ maxLen) (h : rightB x y n = false) :
    Calls Try.prog 52 #[.agg #[.int .i64 x, .int .i64 y, .slice ad n cap]] w fun e w' => e = .returned (.tuple #[.pointer none, .int .i64 150]) ∧ Below w.heap.size w w' := by
  have HB := Lib.hid h
  clear h
  go_enter Try.func52, Try.ntmps52
  go_wp2_with (fail)
  refine (check_any x y ad n cap _ hn).mono ?_
  rintro e w1 ⟨rfl, b1⟩
  rw [HB.out]
  have S1 := Lib.hid (((Since.refl w).alloc _).step b1)
  rw [show errC false = 150 from rfl]
  clear b1
  go_wp2
  go_ret2
  exact ⟨rfl, S1.out⟩
def COf (x y : Int) (L : List (List Col)) (w : World) (e : Ending) (w' : World) : Prop := ∃ p c, e = .returned (.tuple #[ptrV p, .int .i64 0]) ∧ CvAt w' p c ∧ (c.w : Int) = x ∧ (c.h : Int) = y ∧ c.Ts = L ∧ (∀ q ∈ c.ps, w.heap.size ≤ q) ∧ w.heap.size ≤ p ∧ Below w.heap.size w w'
set_option maxRecDepth 100000 in
set_option maxHeartbeats 2000000 in
theorem cof_yes (x y : Int) (ad : Option Addr) (cap : Nat) (L : List (List Col)) (w : World) (hL : TilRow w ad L) (h : rightB x y L.length = true) :
    Calls Try.prog 52 #[.agg #[.int .i64 x, .int .i64 y, .slice ad L.length cap]] w (COf x y L w) := by
  obtain ⟨a, b, rfl, rfl, a1, a4, b1, b4, hab⟩ := rightB_nat h
  have hck := fun w => check_any (a : Int) (b : Int) ad L.length cap w hL.len
  rw [h] at hck
  have m16 : L.length ≤ 16 := by rw [hab]; exact Nat.mul_le_mul a4 b4
  have hpos : 1 ≤ L.length := by rw [hab]; exact Nat.mul_le_mul a1 b1
  have HCK := Lib.hid hck
  have A := Lib.hid (And.intro hL hab)
  clear hL hab h hck
  obtain ⟨m, hm⟩ : ∃ m, L.length = m := ⟨_, rfl⟩
  rw [hm] at m16 hpos ⊢
  have HM := Lib.hid hm
  clear hm
  go_enter Try.func52, Try.ntmps52
  go_wp2_with (fail)
  have hc0 := HCK.out (w.alloc (.cells #[.int .i64 (a : Int), .int .i64 (b : Int), .slice ad m cap] 63))
  rw [HM.out] at hc0
  refine hc0.mono ?_
  rintro e w1 ⟨rfl, bb⟩
  rw [show errC true = 0 from rfl]
  have d1 := (Has.new w (.cells #[.int .i64 (a : Int), .int .i64 (b : Int), .slice ad m cap] 63 (0, 0))).below bb (Has.new _ _).lt
  have q1 := d1.three
  have s1 : Since w w1 := ((Since.refl w).alloc _).step bb
  have S1 := Lib.hid (And.intro s1 d1)
  clear hc0 bb d1 s1
  go_wp2_with (fail)
  have hmd := made_any ad cap L w1 (A.out.1.since S1.out.1) (by rw [HM.out]; omega)
  rw [HM.out] at hmd
  refine hmd.mono ?_
  rintro e w2 ⟨ad', cap', ps, rfl, np, hps, hts, low, hcap, s2⟩
  rw [HM.out] at np hcap ⊢
  have q2 := (S1.out.2.since s2).three
  have l2 := (S1.out.2.since s2).lt
  obtain ⟨p0, hp0⟩ : ∃ p0, ps[0]? = some p0 := ⟨_, List.getElem?_eq_getElem (by omega)⟩
  obtain ⟨g, rfl, hg0⟩ := hps 0 p0 hp0
  have J := Lib.hid (And.intro np (And.intro hps (And.intro hts (And.intro low (And.intro hcap s2)))))
  clear hmd q1 np hps hts low hcap s2 hp0 hg0
  go_wp2
  go_ret2
  obtain ⟨np, hps, hts, low, hcap, s2⟩ := J.out
  have lw := S1.out.1.size
  have lw2 := s2.size
  have hs3 : Since w2 (w2.alloc (.cells #[.int .i64 (a : Int), .int .i64 (b : Int), .slice (some ⟨g, 0, none⟩) m cap'] 188)) := (Since.refl w2).alloc _
  refine ⟨w2.heap.size, { w := a, h := b, ps := ps, Ts := L }, rfl, ⟨g, cap', ⟨⟨a1, a4, b1, b4, by show ps.length = a * b; rw [np, ← A.out.2, HM.out], A.out.2, A.out.1.l64, A.out.1.by_⟩, ?_, by show ps.length ≤ cap'; rw [np]; exact hcap, ?_, ?_⟩⟩, rfl, rfl, rfl, fun q hq => by have := low q hq; omega, by omega, (S1.out.1.trans s2).alloc _⟩
  · show Has _ _ (.cells #[intV (a : Nat), intV (b : Nat), .slice (some ⟨g, 0, none⟩) ps.length cap'] 188 (0, 0))
    rw [np]; exact Has.new _ _
  · intro i p hp
    obtain ⟨g', e, hc⟩ := hps i p hp
    cases e
    exact cell_since hc hs3
  · exact TsAt.since hts hs3
end Go.Proofs.Ytedckelfdkfkoaa
