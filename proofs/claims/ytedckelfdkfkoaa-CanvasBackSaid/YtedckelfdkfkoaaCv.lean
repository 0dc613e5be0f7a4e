/- Canvases: what lies where. -/
import Derived.Test.YtedckelfdkfkoaaSi
namespace Go.Proofs.Ytedckelfdkfkoaa
open Go.RowKit

abbrev ptrV (b : Nat) : Value := .pointer (some ⟨b, 0, none⟩)
/-- a canvas: its sizes, the blocks of its tiles, and what these hold -/
structure Cv where
  w : Nat
  h : Nat
  ps : List Nat
  Ts : List (List Col)
/-- may a canvas be? -/
structure Cv.Ok (c : Cv) : Prop where
  w1 : 1 ≤ c.w
  w4 : c.w ≤ 4
  h1 : 1 ≤ c.h
  h4 : c.h ≤ 4
  np : c.ps.length = c.w * c.h
  nt : c.Ts.length = c.w * c.h
  l64 : ∀ T ∈ c.Ts, T.length = 64
  by_ : ∀ T ∈ c.Ts, ∀ d ∈ T, ByC d
theorem Cv.Ok.le16 {c : Cv} (h : c.Ok) : 1 ≤ c.w * c.h ∧ c.w * c.h ≤ 16 := by
  obtain ⟨a, b, e, f, _⟩ := h
  exact ⟨Nat.mul_le_mul a e, Nat.mul_le_mul b f⟩
/-- a row of pointers to tiles, in block g -/
def PsAt (W : World) (g : Nat) (ps : List Nat) : Prop := ∀ (i p : Nat), ps[i]? = some p → W.cell? ⟨g, i, none⟩ = some (ptrV p)
/-- the tiles -/
def TsAt (W : World) (ps : List Nat) (Ts : List (List Col)) : Prop := ∀ (i p : Nat) (T : List Col), ps[i]? = some p → Ts[i]? = some T → Has W p (.cells (tileA T) 25 (0, 0))
/-- the canvas in block b, whose row of tiles is in block g -/
structure CvIn (W : World) (b g cap : Nat) (c : Cv) : Prop where
  ok : c.Ok
  rec_ : Has W b (.cells #[intV c.w, intV c.h, .slice (some ⟨g, 0, none⟩) c.ps.length cap] 188 (0, 0))
  cap_ : c.ps.length ≤ cap
  ps_ : PsAt W g c.ps
  ts_ : TsAt W c.ps c.Ts
def CvAt (W : World) (b : Nat) (c : Cv) : Prop := ∃ g cap, CvIn W b g cap c
theorem PsAt.since {X Y : World} {g : Nat} {ps : List Nat} (h : PsAt X g ps) (s : Since X Y) : PsAt Y g ps := fun i p hi => cell_since (h i p hi) s
theorem TsAt.since {X Y : World} {ps : List Nat} {Ts : List (List Col)} (h : TsAt X ps Ts) (s : Since X Y) : TsAt Y ps Ts := fun i p T hi hT => (h i p T hi hT).since s
theorem CvIn.since {X Y : World} {b g cap : Nat} {c : Cv} (h : CvIn X b g cap c) (s : Since X Y) : CvIn Y b g cap c := ⟨h.ok, h.rec_.since s, h.cap_, h.ps_.since s, h.ts_.since s⟩
theorem CvAt.since {X Y : World} {b : Nat} {c : Cv} (h : CvAt X b c) (s : Since X Y) : CvAt Y b c := let ⟨g, cap, k⟩ := h; ⟨g, cap, k.since s⟩
theorem CvAt.below {X Y : World} {b : Nat} {c : Cv} (h : CvAt X b c) (s : Below X.heap.size X Y) : CvAt Y b c := h.since s
theorem CvAt.ok {W : World} {b : Nat} {c : Cv} (h : CvAt W b c) : c.Ok := let ⟨_, _, k⟩ := h; k.ok
theorem CvIn.drew {W : World} {b g cap : Nat} {c : Cv} (h : CvIn W b g cap c) : CvIn W.drew b g cap c := h.since (Since.refl W).drew
/-- a tile of a canvas -/
theorem CvIn.tile {W : World} {b g cap : Nat} {c : Cv} (h : CvIn W b g cap c) {n : Nat} (hn : n < c.w * c.h) : ∃ p T, c.ps[n]? = some p ∧ c.Ts[n]? = some T ∧ W.cell? ⟨g, n, none⟩ = some (ptrV p) ∧ Has W p (.cells (tileA T) 25 (0, 0)) ∧ T.length = 64 ∧ ∀ d ∈ T, ByC d := by
  have hp := List.getElem?_eq_getElem (l := c.ps) (i := n) (by rw [h.ok.np]; exact hn)
  have ht := List.getElem?_eq_getElem (l := c.Ts) (i := n) (by rw [h.ok.nt]; exact hn)
  exact ⟨_, _, hp, ht, h.ps_ _ _ hp, h.ts_ _ _ _ hp ht, h.ok.l64 _ (List.mem_of_getElem? ht), h.ok.by_ _ (List.mem_of_getElem? ht)⟩
theorem CvIn.low {W : World} {b g cap : Nat} {c : Cv} (h : CvIn W b g cap c) : b < W.heap.size ∧ g < W.heap.size ∧ ∀ p ∈ c.ps, p < W.heap.size := by
  have h16 := h.ok.le16
  obtain ⟨p, T, hp, _, hc, _⟩ := h.tile (n := 0) (by omega)
  refine ⟨h.rec_.lt, cell_lt (p := ⟨g, 0, none⟩) hc, fun q hq => ?_⟩
  obtain ⟨i, hi⟩ := List.getElem?_of_mem hq
  have hlt := (List.getElem?_eq_some_iff.1 hi).1
  have ht := List.getElem?_eq_getElem (l := c.Ts) (i := i) (by rw [h.ok.nt, ← h.ok.np]; exact hlt)
  exact (h.ts_ _ _ _ hi ht).lt
theorem Has.three {X : World} {r : Nat} {x0 x1 x2 : Value} {T : TypeId} {z : Nat × Nat} (h : Has X r (.cells #[x0, x1, x2] T z)) :
    X.cell? ⟨r, 0, none⟩ = some x0 ∧ X.cell? ⟨r, 1, none⟩ = some x1 ∧ X.cell? ⟨r, 2, none⟩ = some x2 := ⟨h.cell 0, h.cell 1, h.cell 2⟩
theorem Has.two {X : World} {r : Nat} {x0 x1 : Value} {T : TypeId} {z : Nat × Nat} (h : Has X r (.cells #[x0, x1] T z)) :
    X.cell? ⟨r, 0, none⟩ = some x0 ∧ X.cell? ⟨r, 1, none⟩ = some x1 := ⟨h.cell 0, h.cell 1⟩

theorem Has.six {X : World} {r : Nat} {x0 x1 x2 x3 x4 x5 : Value} {T : TypeId} {z : Nat × Nat} (h : Has X r (.cells #[x0, x1, x2, x3, x4, x5] T z)) :
    X.cell? ⟨r, 0, none⟩ = some x0 ∧ X.cell? ⟨r, 1, none⟩ = some x1 ∧ X.cell? ⟨r, 2, none⟩ = some x2 ∧ X.cell? ⟨r, 3, none⟩ = some x3 ∧ X.cell? ⟨r, 4, none⟩ = some x4 ∧ X.cell? ⟨r, 5, none⟩ = some x5 := ⟨h.cell 0, h.cell 1, h.cell 2, h.cell 3, h.cell 4, h.cell 5⟩

/-! ### Dots -/
abbrev Dot := Int × Int × Col
abbrev dotC (d : Dot) : Array Value := #[.int .i64 d.1, .int .i64 d.2.1, .int .u8 d.2.2.1, .int .u8 d.2.2.2.1, .int .u8 d.2.2.2.2.1, .int .u8 d.2.2.2.2.2]
def DotAt (W : World) (p : Addr) (d : Dot) : Prop := W.cell? p = some (.int .i64 d.1) ∧ W.cell? ⟨p.block, p.off + 1, none⟩ = some (.int .i64 d.2.1) ∧ W.cell? ⟨p.block, p.off + 2, none⟩ = some (.int .u8 d.2.2.1) ∧ W.cell? ⟨p.block, p.off + 3, none⟩ = some (.int .u8 d.2.2.2.1) ∧ W.cell? ⟨p.block, p.off + 4, none⟩ = some (.int .u8 d.2.2.2.2.1) ∧ W.cell? ⟨p.block, p.off + 5, none⟩ = some (.int .u8 d.2.2.2.2.2)
def WdD (d : Dot) : Prop := WdP (d.1, d.2.1) ∧ ByC d.2.2
structure DotRow (W : World) (ad : Option Addr) (l : List Dot) : Prop where
  len : l.length ≤ maxLen
  at_ : ∀ i d, l[i]? = some d → ∃ a, ad = some a ∧ DotAt W (a.add (i * 6)) d
  by_ : ∀ d ∈ l, WdD d
theorem DotAt.since {X Y : World} {p : Addr} {d : Dot} (h : DotAt X p d) (s : Since X Y) : DotAt Y p d :=
  ⟨cell_since h.1 s, cell_since h.2.1 s, cell_since h.2.2.1 s, cell_since h.2.2.2.1 s, cell_since h.2.2.2.2.1 s, cell_since h.2.2.2.2.2 s⟩
theorem DotRow.since {X Y : World} {ad : Option Addr} {l : List Dot} (h : DotRow X ad l) (s : Since X Y) : DotRow Y ad l :=
  ⟨h.len, fun i c hi => let ⟨a, e, hc⟩ := h.at_ i c hi; ⟨a, e, hc.since s⟩, h.by_⟩
theorem DotRow.upto {W : World} {ad : Option Addr} {l : List Dot} (h : DotRow W ad l) (q : Nat) : DotRow W ad (l.take q) := by
  refine ⟨by have := h.len; rw [List.length_take]; omega, fun i c hi => ?_, fun c hc => h.by_ c (List.mem_of_mem_take hc)⟩
  rw [List.getElem?_take] at hi
  split at hi
  · exact h.at_ i c hi
  · cases hi

/-- is the point on a canvas of these sizes? -/
def onB (w h : Nat) (x y : Int) : Bool := decide (0 ≤ x ∧ 0 ≤ y ∧ x < 8 * (w : Int) ∧ y < 8 * (h : Int))
theorem onB_iff {w h : Nat} {x y : Int} : onB w h x y = true ↔ 0 ≤ x ∧ 0 ≤ y ∧ x < 8 * (w : Int) ∧ y < 8 * (h : Int) := by simp [onB]
theorem onB_not {w h : Nat} {x y : Int} : onB w h x y = false ↔ ¬ (0 ≤ x ∧ 0 ≤ y ∧ x < 8 * (w : Int) ∧ y < 8 * (h : Int)) := by rw [← onB_iff]; simp
theorem onB_nat {w h : Nat} {x y : Int} (hb : onB w h x y = true) : ∃ a b : Nat, a < 8 * w ∧ b < 8 * h ∧ x = (a : Int) ∧ y = (b : Int) := by
  have h' := onB_iff.1 hb
  obtain ⟨a, rfl⟩ := Int.eq_ofNat_of_zero_le h'.1
  obtain ⟨b, rfl⟩ := Int.eq_ofNat_of_zero_le h'.2.1
  exact ⟨a, b, by omega, by omega, rfl, rfl⟩
/-- the tile of a pixel -/
def tileN (w a b : Nat) : Nat := b / 8 * w + a / 8
theorem tileN_lt {w h a b : Nat} (ha : a < 8 * w) (hb : b < 8 * h) : tileN w a b < w * h := by
  unfold tileN
  have h1 : a / 8 < w := by omega
  have h2 : b / 8 < h := by omega
  calc b / 8 * w + a / 8 < b / 8 * w + w := by omega
    _ = (b / 8 + 1) * w := by rw [Nat.add_mul, Nat.one_mul]
    _ ≤ h * w := Nat.mul_le_mul_right _ h2
    _ = w * h := Nat.mul_comm _ _
/-- the tiles with a dot -/
def dotT (w h : Nat) (Ts : List (List Col)) (d : Dot) : List (List Col) :=
  if onB w h d.1 d.2.1 = true then Ts.modify (tileN w d.1.toNat d.2.1.toNat) (fun T => T.set (d.2.1.toNat % 8 * 8 + d.1.toNat % 8) d.2.2) else Ts
def dotsT (w h : Nat) (Ts : List (List Col)) (l : List Dot) : List (List Col) := l.foldl (dotT w h) Ts
theorem dotT_length (w h : Nat) (Ts : List (List Col)) (d : Dot) : (dotT w h Ts d).length = Ts.length := by unfold dotT; split <;> simp
theorem dotsT_length (w h : Nat) : ∀ (l : List Dot) (Ts : List (List Col)), (dotsT w h Ts l).length = Ts.length
  | [], _ => rfl
  | d :: l, Ts => (dotsT_length w h l (dotT w h Ts d)).trans (dotT_length w h Ts d)
theorem dotsT_snoc (w h : Nat) (Ts : List (List Col)) (l : List Dot) (d : Dot) : dotsT w h Ts (l ++ [d]) = dotT w h (dotsT w h Ts l) d := by unfold dotsT; rw [List.foldl_append]; rfl
theorem dotT_l64 {w h : Nat} {Ts : List (List Col)} {d : Dot} (hl : ∀ T ∈ Ts, T.length = 64) : ∀ T ∈ dotT w h Ts d, T.length = 64 := by
  unfold dotT
  split
  · intro T hT
    obtain ⟨i, hi⟩ := List.getElem?_of_mem hT
    rw [List.getElem?_modify] at hi
    obtain ⟨T', h', rfl⟩ := Option.map_eq_some_iff.1 hi
    have := hl T' (List.mem_of_getElem? h')
    split <;> simp [this]
  · exact hl
theorem dotT_by {w h : Nat} {Ts : List (List Col)} {d : Dot} (hl : ∀ T ∈ Ts, ∀ c ∈ T, ByC c) (hd : ByC d.2.2) : ∀ T ∈ dotT w h Ts d, ∀ c ∈ T, ByC c := by
  unfold dotT
  split
  · intro T hT
    obtain ⟨i, hi⟩ := List.getElem?_of_mem hT
    rw [List.getElem?_modify] at hi
    obtain ⟨T', h', rfl⟩ := Option.map_eq_some_iff.1 hi
    have hb := hl T' (List.mem_of_getElem? h')
    split
    · intro c hc
      rcases List.mem_or_eq_of_mem_set hc with h | h
      · exact hb c h
      · rw [h]; exact hd
    · exact hb
  · exact hl
theorem dotsT_l64 {w h : Nat} : ∀ {l : List Dot} {Ts : List (List Col)}, (∀ T ∈ Ts, T.length = 64) → ∀ T ∈ dotsT w h Ts l, T.length = 64
  | [], _, hl => hl
  | _ :: l, _, hl => dotsT_l64 (l := l) (dotT_l64 hl)
theorem dotsT_by {w h : Nat} : ∀ {l : List Dot} {Ts : List (List Col)}, (∀ T ∈ Ts, ∀ c ∈ T, ByC c) → (∀ d ∈ l, WdD d) → ∀ T ∈ dotsT w h Ts l, ∀ c ∈ T, ByC c
  | [], _, hl, _ => hl
  | d :: l, _, hl, hd => dotsT_by (l := l) (dotT_by hl (hd d (by simp)).2) fun e he => hd e (by simp [he])
end Go.Proofs.Ytedckelfdkfkoaa
