/- General laws of my own: a scope in a fenced walk; iterators that hand over a known list; the range over such an iterator. No program in sight. -/
import Derived.RangeFuncNested
import Derived.RangeFuncBound
import Derived.RangeFuncCalls
import Derived.RangeFuncLeaves
import Derived.RangeFuncBox
import Derived.Shelf.Abstract
import Derived.Shelf.RegionOpen
import Derived.WalkKit
import Derived.OwnWalkIn
import Derived.TacticsInMore
import Derived.LoopNIn
import Derived.LoopIn
import Derived.OrdersHeld
import Derived.WalkSpells
import Derived.WalkLawsBesides
namespace Go.Proofs.Ytedckelfdkfkoaa
open Go.RowKit

/-- A scope through which the run goes without a goto, in a fenced walk. -/
theorem wpIn_scope_straight {F : Fence} {n : Nat} {P : Program} {Q : Exit → Act → World → Prop} {a : Act} {w : World} {c : Code}
    (hgo : ∀ l a w, Q (.goto l) a w → False) (h : c.wpIn F n P Q a w) : (Code.scope c).wpIn F n P Q a w := by
  intro b k cs hro hb hr
  have h0 : (lone (b.atR a (.code (.scope c) :: k)) cs w).fenced P F := fenced_calm hb hr rfl
  have s0 : step P (lone (b.atR a (.code (.scope c) :: k)) cs w) = .next (lone (b.atR a (.code c :: .inScope c :: k)) cs w) :=
    step_lone_go (by simp [stepG, stepG.exec, Frame.atR])
  have s1 : ∀ a w, step P (lone (b.atR a (.inScope c :: k)) cs w) = .next (lone (b.atR a k) cs w) := fun a w =>
    step_lone_go (by simp [stepG, stepG.exec, Frame.atR])
  obtain ⟨e, a₁, w₁, hq, harr⟩ := h b (.inScope c :: k) cs hro hb hr
  cases e with
  | normal => exact ⟨.normal, a₁, w₁, hq, .head h0 s0 (StepsIn.trans harr (.one (fenced_calm hb hr rfl) (s1 _ _)))⟩
  | exit id =>
    have hx : exitTo id (.inScope c :: k) = exitTo id k := by simp [exitTo]
    exact ⟨.exit id, a₁, w₁, hq, fun k' hk => .head h0 s0 (harr.1 k' (by rw [hx]; exact hk)),
      fun hr' hk => let ⟨k₁, h1, h2⟩ := harr.2 hr' (by rw [hx]; exact hk); ⟨k₁, h1, .head h0 s0 h2⟩⟩
  | goto l => exact (hgo _ _ _ hq).elim
  | ret => exact ⟨_, a₁, w₁, hq, .of_steps (.one h0 s0) harr⟩
  | panic ch => exact ⟨_, a₁, w₁, hq, .of_steps (.one h0 s0) harr⟩
  | outgrown => exact ⟨_, a₁, w₁, hq, .of_steps (.one h0 s0) harr⟩

theorem wpIn_seq_label {F : Fence} {n : Nat} {P : Program} {Q : Exit → Act → World → Prop} {a : Act} {w : World} {l : Nat} {c : Code}
    (h : c.wpIn F n P Q a w) : (Code.seq (.label l) c).wpIn F n P Q a w := wpIn_seq (wpIn_label h)

/-- The iterator value '.func (.func g) #[] lb' hands over the list L, in order, one by one, in whatever later world; it stops where a round says so. -/
def Iter {α : Type} (P : Program) (g : Nat) (lb : Array Value) (encs : α → Array Value) (L : List α) (n₀ : Nat) (w : World) : Prop :=
  ∀ (l : Nat) (J Jx : List α → World → Prop) (W : World), Below w.heap.size w W → AbidesFrom W.heap.size J → AbidesFrom W.heap.size Jx →
    (∀ pre x W1, J pre W1 → pre ++ [x] <+: L → YieldAt Fence.wide 0 P l (encs x) W1 fun e W' =>
      (e = .returned (.bool true) ∧ J (pre ++ [x]) W' ∧ Below n₀ W1 W') ∨ (e = .returned (.bool false) ∧ Jx (pre ++ [x]) W')) →
    J [] W →
    CallsIn Fence.wide 0 P g (#[.func (.yield l) #[] #[]] ++ lb) W fun e W' => (∃ v, e = .returned v) ∧ (J L W' ∨ ∃ pre, pre <+: L ∧ Jx pre W')

theorem Iter.later {α : Type} {P : Program} {g : Nat} {lb : Array Value} {encs : α → Array Value} {L : List α} {n₀ : Nat} {w w' : World}
    (h : Iter P g lb encs L n₀ w) (hb : Below w.heap.size w w') : Iter P g lb encs L n₀ w' :=
  fun l J Jx W hW hJ hJx hY h0 => h l J Jx W (hb.trans (hW.mono hb.size)) hJ hJx hY h0

/-! ### What a block holds -/
/-- Block r holds o. -/
def Has (W : World) (r : Nat) (o : Obj) : Prop := W.heap[r]? = some o
theorem Has.lt {W : World} {r : Nat} {o : Obj} (h : Has W r o) : r < W.heap.size := (Array.getElem?_eq_some_iff.1 h).1
theorem Has.new (W : World) (o : Obj) : Has (W.alloc o) W.heap.size o := World.alloc_heap_new W _
theorem Has.alloc {W : World} {r : Nat} {o : Obj} (h : Has W r o) (o' : Obj) : Has (W.alloc o') r o := (Below.heap_alloc W o' r h.lt).trans h
theorem Has.drew {W : World} {r : Nat} {o : Obj} (h : Has W r o) : Has W.drew r o := h
theorem Has.other {W : World} {r : Nat} {o : Obj} (h : Has W r o) {a : Addr} (v : Value) (hne : r ≠ a.block) : Has (W.setCell a v) r o := (Below.heap_setCell W a v r hne).trans h
theorem Has.below {n : Nat} {W W' : World} {r : Nat} {o : Obj} (h : Has W r o) (hb : Below n W W') (hr : r < n) : Has W' r o := (hb.block r hr).trans h
theorem Has.kept {W W' : World} {row : Option Nat} {r : Nat} {o : Obj} (h : Has W r o) (hg : W.grownBy W' row) (hne : some r ≠ row) : Has W' r o := (hg.block r h.lt hne).trans h
theorem Has.putOther {W : World} {r l : Nat} {o : Obj} (h : Has W r o) (o' : Obj) (hne : r ≠ l) : Has (W.putObj l o') r o := (World.putObj_heap_other hne).trans h
/-- Two blocks that hold what is not the same are two. -/
theorem Has.ne {W : World} {r s : Nat} {o o' : Obj} (h : Has W r o) (h' : Has W s o') (hne : o ≠ o') : r ≠ s := by
  rintro rfl; exact hne (Option.some.inj (h.symm.trans h'))
theorem Has.cell {W : World} {r : Nat} {cs : Array Value} {T : TypeId} {z : Nat × Nat} (h : Has W r (.cells cs T z)) (j : Nat) : W.cell? ⟨r, j, none⟩ = cs[j]? := by
  simp [World.cell?, show W.heap[r]? = _ from h]
theorem Has.free {W : World} {r : Nat} {cs : Array Value} {T : TypeId} (h : Has W r (.cells cs T (0, 0))) (j : Nat) : W.frozen? ⟨r, j, none⟩ = false := by
  simp [World.frozen?, show W.heap[r]? = _ from h]
theorem Has.set {W : World} {r : Nat} {cs : Array Value} {T : TypeId} {z : Nat × Nat} (h : Has W r (.cells cs T z)) (j : Nat) (v : Value) : Has (W.setCell ⟨r, j, none⟩ v) r (.cells (cs.setIfInBounds j v) T z) := by
  obtain ⟨hlt, hk⟩ := Array.getElem?_eq_some_iff.1 h
  show (W.heap.modify r _)[r]? = _
  rw [Array.getElem?_eq_getElem (by rw [Array.size_modify]; exact hlt), Array.getElem_modify_self, hk]
  rfl
/-- What a block of cells holds stands over the turn of a block that is no cells. -/
theorem has_own {β : Type} (B : Nat) (r : Nat) (cs : β → Array Value) (T : TypeId) (z : Nat × Nat) : OwnFrom B (fun (s : β) W => Has W r (.cells (cs s) T z)) := by
  intro s X Y row hs hg hrow
  refine hs.kept hg (fun e => ?_)
  obtain ⟨_, o, ho, hc⟩ := hrow r e.symm
  rw [show X.heap[r]? = _ from hs] at ho; cases ho; cases hc
/-- What a block below B holds stands over the turn of one from B on. -/
theorem has_low {β : Type} {B : Nat} {r : Nat} (hr : r < B) (o : β → Obj) : OwnFrom B (fun (s : β) W => Has W r (o s)) := by
  intro s X Y row hs hg hrow
  refine hs.kept hg (fun e => ?_)
  obtain ⟨hB, _⟩ := hrow r e.symm
  omega
theorem own_pure {β : Type} {B : Nat} (p : β → Prop) : OwnFrom B (fun (s : β) (_ : World) => p s) := fun _ _ _ _ hs _ _ => hs
theorem own_false {β : Type} {B : Nat} : OwnFrom B (fun (_ : β) (_ : World) => False) := fun _ _ _ _ hs _ _ => hs

/-- What a round owes behind the assignments to the loop's variables: nothing that the loop keeps has turned; something (J) stands that abides the loop's own book-keeping; from it the body goes through. -/
def RoundOk {α : Type} (P : Program) (l B n₀ : Nat) (I : List α → World → Prop) (Ix : Code → List α → World → Prop) (body : Code) (xs : List α) (W : World) (a₁ : Act) (W₁ : World) : Prop :=
  KeepsFrom B W W₁ ∧ Below n₀ W W₁ ∧ ∃ J : World → Prop, OwnFrom B (fun (_ : Unit) => J) ∧ J W₁ ∧
    ∀ W', J W' → body.wpIn (Fence.wide.inRound l) 0 P (ownPostG B (Below n₀) I Ix xs W') a₁ W'

theorem RoundOk.plain {α : Type} {P : Program} {l B n₀ : Nat} {I : List α → World → Prop} {Ix : Code → List α → World → Prop} {body : Code} {pre xs : List α} {W : World} {a₁ : Act}
    (hI : OwnFrom B I) (hi : I pre W) (h : ∀ W', I pre W' → body.wpIn (Fence.wide.inRound l) 0 P (ownPostG B (Below n₀) I Ix xs W') a₁ W') : RoundOk P l B n₀ I Ix body xs W a₁ W :=
  ⟨KeepsFrom.refl _ _, Below.refl _ _, I pre, fun _ X Y row hs hg hr => hI pre X Y row hs hg hr, hi, h⟩

section
variable {B D l : Nat}

/-- The book-keeping of a range over a function: the loop's record and the block for the rounds' deferred calls. -/
structure Book (B D l : Nat) (o : Obj) (W : World) : Prop where
  rcd : W.heap[l]? = some o
  defs : W.heap[D]? = some (.deferred (some []))
  ne : D ≠ l
  lo : B ≤ D
  lo' : B ≤ l

theorem Book.grown {o : Obj} {X Y : World} {row : Option Nat} (h : Book B D l o X) (hg : X.grownBy Y row) (hr : ∀ r, row = some r → ∃ o : Obj, X.heap[r]? = some o ∧ o.isWalk = true) (hw : o.isWalk = false) : Book B D l o Y := by
  have ne : ∀ (k : Nat) (o' : Obj), X.heap[k]? = some o' → o'.isWalk = false → some k ≠ row := by
    intro k o' hk hw' e
    obtain ⟨o₂, h₂, h₃⟩ := hr k e.symm
    rw [hk] at h₂; cases h₂; rw [hw'] at h₃; cases h₃
  refine ⟨?_, ?_, h.ne, h.lo, h.lo'⟩
  · exact (hg.block l (Array.getElem?_eq_some_iff.1 h.rcd).1 (ne _ _ h.rcd hw)).trans h.rcd
  · exact (hg.block D (Array.getElem?_eq_some_iff.1 h.defs).1 (ne _ _ h.defs rfl)).trans h.defs

theorem Book.put {o : Obj} {W : World} (h : Book B D l o W) (o' : Obj) : Book B D l o' (W.putObj l o') :=
  ⟨World.putObj_heap_same (Array.getElem?_eq_some_iff.1 h.rcd).1, (World.putObj_heap_other h.ne).trans h.defs, h.ne, h.lo, h.lo'⟩

theorem Book.keeps {o : Obj} {W W' : World} (h : Book B D l o W) (ho : o.isCells = false) (hk : KeepsFrom B W W') : Book B D l o W' :=
  ⟨hk.same _ _ h.lo' h.rcd ho, hk.same _ _ h.lo h.defs rfl, h.ne, h.lo, h.lo'⟩
end

/-- THE RANGE OVER SUCH AN ITERATOR. D: the block for the rounds' deferred calls. -/
theorem wpIn_range {α : Type} {P : Program} {g : Operand} {ps : Array Tmp} {assign body : Code} {Q : Exit → Act → World → Prop} {a : Act} {w : World}
    {gf : Nat} {lb : Array Value} (hg : a.eval g = .func (.func gf) #[] lb) (eg : ∀ args w, (callFunc gf args).run P w = .ok (.enter gf args) w)
    {encs : α → Array Value} {L : List α} {n₀ : Nat} {w0 : World} (hit : Iter P gf lb encs L n₀ w0) (hn₀ : n₀ ≤ w.heap.size) (hb0 : Below w0.heap.size w0 w) (hps : ∀ x, (encs x).size = ps.size)
    (I : List α → World → Prop) (Ix : Code → List α → World → Prop) (hI : OwnFrom w.heap.size I) (hIx : ∀ c, OwnFrom w.heap.size (Ix c)) (h0 : I [] w)
    (hround : ∀ (l : Nat) (pre : List α) (x : α) (W : World), I pre W → pre ++ [x] <+: L →
      assign.wpIn (Fence.wide.inRound l) 0 P (Exit.then (RoundOk P l w.heap.size n₀ I Ix body (pre ++ [x]) W) (fun _ _ _ => False)) { tmps := (ps.zip (encs x)).foldl (fun t (p, v) => t.setIfInBounds p v) a.tmps, defers := [] } W)
    (hdone : ∀ (D : Nat) (W : World), w.heap.size ≤ D → I L W → Has W D (.deferred (some [])) → Q .normal { a with defers := { target := .collected D, args := #[] } :: a.defers } W)
    (hstop : ∀ (D : Nat) (c : Code) (pre : List α) (W : World), w.heap.size ≤ D → pre <+: L → Ix c pre W → Has W D (.deferred (some [])) → c.wpIn Fence.wide 0 P Q { a with defers := { target := .collected D, args := #[] } :: a.defers } W) :
    (Code.rangeFunc g ps assign body).wpIn Fence.wide 0 P Q a w := by
  refine wpIn_rangeFunc fun fn hfn => ?_
  rw [show Fence.wide.round = none from rfl]
  obtain ⟨B, hB⟩ : ∃ B, w.heap.size = B := ⟨_, rfl⟩
  rw [hB] at hn₀ hI hIx hround hdone hstop
  obtain ⟨rec, hrec⟩ : ∃ rec : LoopState → Option Code → Loop, rec = fun st pe => { state := st, pending := pe, fn, tmps := a.tmps, params := ps, assign, body, defers := B } := ⟨_, rfl⟩
  obtain ⟨W1, hW1⟩ : ∃ W1, (w.alloc (.deferred (some []))).alloc (.loop (rec .ready none)) = W1 := ⟨_, rfl⟩
  have sz1 : W1.heap.size = B + 2 := by rw [← hW1, ← hB]; simp
  have bk1 : Book B B (B + 1) (.loop (rec .ready none)) W1 := by
    refine ⟨?_, ?_, by omega, Nat.le_refl _, by omega⟩
    · rw [← hW1, ← hB]; have := World.alloc_heap_new (w.alloc (.deferred (some []))) (.loop (rec .ready none)); rwa [World.size_alloc] at this
    · rw [← hW1, ← hB]; exact (Below.heap_alloc _ _ _ (by simp)).trans (World.alloc_heap_new w _)
  have i1 : I [] W1 := by rw [← hW1]; exact hI.alloc _ (hI.alloc _ h0)
  have hb1 : Below w0.heap.size w0 W1 := by
    rw [← hW1]; exact hb0.trans ((((Below.refl _ w).alloc (Nat.le_refl _) _).alloc (by simp) _).mono hb0.size)
  have put : ∀ (W : World) (o o' : Obj), W.heap[B + 1]? = some o → o.isCells = false → o.isWalk = false → Below n₀ W (W.putObj (B + 1) o') :=
    fun W o o' h hc hw => belowK_b (w := w) (by omega) W _ o o' (by omega) h hc hw
  refine ⟨B + 1, [{ target := .collected B, args := #[] }], W1, { target := .fn (.func gf) lb, args := #[.func (.yield (B + 1)) #[] #[]] }, W1, gf,
    #[.func (.yield (B + 1)) #[] #[]] ++ lb, W1, ?_, ?_, fun _ _ => trivial, ?_, (fun h => by cases h), ?_⟩
  · rw [← hW1, hrec, ← hB]; exact run_enterLoop_outer _ _ _ _ _
  · simp only [resolve, hg]; simp [go_sem]
  · simp [invoke, go_sem, eg]
  have low : ∀ {X : World} {row : Option Nat}, (∀ r, row = some r → W1.heap.size ≤ r ∧ ∃ o : Obj, X.heap[r]? = some o ∧ o.isWalk = true) → ∀ r, row = some r → B ≤ r ∧ ∃ o : Obj, X.heap[r]? = some o ∧ o.isCells = false :=
    fun hr r e => by obtain ⟨h1, o, ho, hw⟩ := hr r e; exact ⟨by omega, o, ho, Obj.not_cells_of_walk hw⟩
  refine (hit (B + 1) (fun pre W => I pre W ∧ Book B B (B + 1) (.loop (rec .ready none)) W) (fun pre W => ∃ c, Ix c pre W ∧ Book B B (B + 1) (.loop (rec .done (some c))) W) W1 hb1
    (fun s X Y row hs hg' hr => ⟨hI s X Y row hs.1 hg' (low (X := X) hr), hs.2.grown hg' (fun r e => (hr r e).2) rfl⟩)
    (fun s X Y row ⟨c, hc, hk⟩ hg' hr => ⟨c, hIx c s X Y row hc hg' (low (X := X) hr), hk.grown hg' (fun r e => (hr r e).2) rfl⟩)
    (fun pre x W ⟨hi, hbk⟩ hpre => ?_) ⟨i1, bk1⟩).mono ?_
  · have hy := run_yield (P := P) (args := encs x) hbk.rcd (by rw [hrec]; exact hps x)
    rw [hrec] at hy
    refine ⟨fn, _, assign, body, hy, roundIn_of_wpIn hfn (wpIn_mono (hround (B + 1) pre x W hi hpre) ?_)⟩
    rintro e a₁ W₁ hok
    cases e with
    | normal =>
      obtain ⟨hkW, hbW, J, hJ, hJ₁, hbody⟩ := hok
      have bk₁ := hbk.keeps rfl hkW
      refine ⟨_, run_beginRound bk₁.rcd (by rw [hrec]), wpIn_mono (hbody _ (hJ.putObj (s := ()) _ hJ₁ (by omega) bk₁.rcd rfl)) ?_⟩
      have bk₂ := bk₁.put (.loop { rec .ready none with state := .busy })
      have fin : ∀ (jump : Option Code) (W₃ : World), KeepsFrom B (W₁.putObj (B + 1) (.loop { rec .ready none with state := .busy })) W₃ →
          (Instr.endRound (B + 1) jump).run P W₃ = .ok (.bool jump.isNone) (W₃.putObj (B + 1) (.loop (rec (if jump.isNone then .ready else .done) jump))) ∧
          Book B B (B + 1) (.loop { rec .ready none with state := .busy }) W₃ := fun jump W₃ hk₃ => by
        have b₃ := bk₂.keeps rfl hk₃
        have := run_endRound (P := P) jump b₃.rcd
        rw [hrec] at this ⊢
        exact ⟨this, by rw [hrec] at b₃; exact b₃⟩
      have out : ∀ (c : Code) (W₃ : World), KeepsFrom B (W₁.putObj (B + 1) (.loop { rec .ready none with state := .busy })) W₃ → Ix c (pre ++ [x]) W₃ →
          ∃ v w', (Instr.endRound (B + 1) (some c)).run P W₃ = .ok v w' ∧ ((Ending.returned v = .returned (.bool true) ∧ (I (pre ++ [x]) w' ∧ Book B B (B + 1) (.loop (rec .ready none)) w') ∧ Below n₀ W w') ∨
            (Ending.returned v = .returned (.bool false) ∧ ∃ c, Ix c (pre ++ [x]) w' ∧ Book B B (B + 1) (.loop (rec .done (some c))) w')) := fun c W₃ hk₃ hi₃ => by
        obtain ⟨hr, b₃⟩ := fin (some c) W₃ hk₃
        exact ⟨_, _, hr, .inr ⟨rfl, c, (hIx _).putObj _ hi₃ (by omega) b₃.rcd rfl, b₃.put _⟩⟩
      rintro e a₃ W₃ hp
      cases e with
      | normal =>
        obtain ⟨hk₃, hb₃, hi₃⟩ := hp
        obtain ⟨hr, b₃⟩ := fin none W₃ hk₃
        exact ⟨_, _, hr, .inl ⟨rfl, ⟨hI.putObj _ hi₃ (by omega) b₃.rcd rfl, b₃.put _⟩, ((hbW.trans (put _ _ _ bk₁.rcd rfl rfl)).trans hb₃).trans (put _ _ _ b₃.rcd rfl rfl)⟩⟩
      | ret => exact out _ _ hp.1 hp.2
      | exit id => exact out _ _ hp.1 hp.2
      | goto t => exact out _ _ hp.1 hp.2
      | panic ch => exact hp.elim
      | outgrown => exact hp.elim
    | exit id => exact hok.elim
    | goto t => exact hok.elim
    | ret => exact hok.elim
    | panic ch => exact hok.elim
    | outgrown => exact hok.elim
  · rintro e W2 ⟨⟨v, rfl⟩, (⟨hi, hbk⟩ | ⟨pre, hpre, c, hi, hbk⟩)⟩
    · exact ⟨none, _, by have := run_endLoop (P := P) hbk.rcd (by rw [hrec]; simp); rw [hrec] at this; exact this, hdone _ _ (Nat.le_refl _) (hI.putObj _ hi (by omega) hbk.rcd rfl) (hbk.put _).defs⟩
    · exact ⟨some c, _, by have := run_endLoop (P := P) hbk.rcd (by rw [hrec]; simp); rw [hrec] at this; exact this, hstop _ c pre _ (Nat.le_refl _) hpre ((hIx c).putObj _ hi (by omega) hbk.rcd rfl) (hbk.put _).defs⟩

/-- The marks of the loops are taken, one by one, when the function is left. -/
theorem leaves_mark {F : Fence} {n : Nat} {P : Program} {fn : Func} {tmps : Array Value} {R : Ending → World → Prop} {D : Nat} {ds : List Deferred} {W : World}
    (h : Has W D (.deferred (some []))) (hl : LeavesInM F n P fn tmps R ds .returning (W.putObj D (.deferred none))) :
    LeavesInM F n P fn tmps R ({ target := .collected D, args := #[] } :: ds) .returning W :=
  ⟨by simp, .inl ⟨D, _, rfl, run_takeDeferred h, hl⟩⟩
theorem leaves_end {F : Fence} {n : Nat} {P : Program} {fn : Func} {tmps : Array Value} {R : Ending → World → Prop} {W : World} {v : Value}
    (h : (results fn tmps).run P W = .ok v W) (hR : R (.returned v) W) : LeavesInM F n P fn tmps R [] .returning W := ⟨v, h, hR⟩

/-! ### The wide fence, said to the walk -/
theorem wide_fn (f : Nat) : Fence.wide.fn f = True := eq_true trivial
theorem wide_depth : (Fence.wide.depth = none) = True := eq_true rfl
theorem round_fn (l f : Nat) : (Fence.wide.inRound l).fn f = True := eq_true trivial
theorem round_depth (l : Nat) : ((Fence.wide.inRound l).depth = none) = True := eq_true rfl

/-- A function's contract out of its plain walk, where its body holds a range over a function. -/
theorem calls_of_wp_marks {P : Program} {f : FuncId} {fn : Func} {c : Code} {args : Array Value} {w : World} {R : Ending → World → Prop}
    (hf : P.funcs[f]? = some fn) (hb : fn.body = some c)
    (h : c.wp P (bodyPostM Fence.wide 0 P fn R) { tmps := args ++ Array.replicate (fn.ntmps - args.size) undef, defers := [] } w) : Calls P f args w R :=
  callsIn_wide.1 (callsIn_of_wp_marks hf hb trivial (wpIn_wide.2 h) rfl)

/-- The same where no variable of the loop lies in a box: the world is as it was. -/
def RoundAt {α : Type} (P : Program) (l B n₀ : Nat) (I : List α → World → Prop) (body : Code) (pre xs : List α) (W : World) (a₁ : Act) (W₁ : World) : Prop :=
  W₁ = W ∧ ∀ W', I pre W' → body.wpIn (Fence.wide.inRound l) 0 P (ownPostG B (Below n₀) I (fun _ _ _ => False) xs W') a₁ W'

/-- The range over an iterator that hands over a known list, no round leaving early, no variable of the loop in a box; in a plain walk. -/
theorem wp_range {α : Type} {P : Program} {g : Operand} {ps : Array Tmp} {assign body : Code} {Q : Exit → Act → World → Prop} {a : Act} {w : World}
    {gf : Nat} {lb : Array Value} (hg : a.eval g = .func (.func gf) #[] lb) (eg : ∀ args w, (callFunc gf args).run P w = .ok (.enter gf args) w)
    {encs : α → Array Value} {L : List α} {n₀ : Nat} {w0 : World} (hit : Iter P gf lb encs L n₀ w0) (hn₀ : n₀ ≤ w.heap.size) (hb0 : Below w0.heap.size w0 w) (hps : ∀ x, (encs x).size = ps.size)
    (I : List α → World → Prop) (hI : OwnFrom w.heap.size I) (h0 : I [] w)
    (hround : ∀ (l : Nat) (pre : List α) (x : α) (W : World), I pre W → pre ++ [x] <+: L →
      assign.wpIn (Fence.wide.inRound l) 0 P (Exit.then (RoundAt P l w.heap.size n₀ I body pre (pre ++ [x]) W) (fun _ _ _ => False)) { tmps := (ps.zip (encs x)).foldl (fun t (p, v) => t.setIfInBounds p v) a.tmps, defers := [] } W)
    (hdone : ∀ (D : Nat) (W : World), w.heap.size ≤ D → I L W → Has W D (.deferred (some [])) → Q .normal { a with defers := { target := .collected D, args := #[] } :: a.defers } W) :
    (Code.rangeFunc g ps assign body).wp P Q a w :=
  wpIn_wide.1 (wpIn_range hg eg hit hn₀ hb0 hps I (fun _ _ _ => False) hI (fun _ => own_false) h0
    (fun l pre x W hi hpre => wpIn_mono (hround l pre x W hi hpre) fun e a₁ W₁ h => by
      cases e <;> first | exact h.elim | (obtain ⟨rfl, h⟩ := h; exact RoundOk.plain hI hi h))
    hdone (fun _ _ _ _ _ _ h _ => h.elim))

/-! ### From A to B nothing has turned but the named blocks; blocks may have come -/
structure Grew (rows : List Nat) (A B : World) : Prop where
  os : B.os = A.os
  tape : B.tape = A.tape
  output : B.output = A.output
  size : A.heap.size ≤ B.heap.size
  block : ∀ k, k < A.heap.size → k ∉ rows → B.heap[k]? = A.heap[k]?
theorem Grew.refl (rows : List Nat) (A : World) : Grew rows A A := ⟨rfl, rfl, rfl, Nat.le_refl _, fun _ _ _ => rfl⟩
theorem Grew.trans {rows : List Nat} {A B C : World} (h : Grew rows A B) (k : Grew rows B C) : Grew rows A C :=
  ⟨k.os.trans h.os, k.tape.trans h.tape, k.output.trans h.output, Nat.le_trans h.size k.size, fun i hi hn => (k.block i (Nat.lt_of_lt_of_le hi h.size) hn).trans (h.block i hi hn)⟩
theorem Grew.alloc {rows : List Nat} {A B : World} (h : Grew rows A B) (o : Obj) : Grew rows A (B.alloc o) :=
  h.trans ⟨rfl, rfl, rfl, by simp, fun k hk _ => Below.heap_alloc _ _ _ hk⟩
theorem Grew.drew {rows : List Nat} {A B : World} (h : Grew rows A B) : Grew rows A B.drew := ⟨h.os, h.tape, h.output, h.size, h.block⟩
theorem Grew.setCell {rows : List Nat} {A B : World} (h : Grew rows A B) {a : Addr} (v : Value) (hr : a.block ∈ rows ∨ A.heap.size ≤ a.block) : Grew rows A (B.setCell a v) :=
  ⟨h.os, h.tape, h.output, by simp only [World.setCell, Array.size_modify]; exact h.size, fun k hk hn => (Below.heap_setCell B a v k (by rintro rfl; rcases hr with hr | hr; exact hn hr; omega)).trans (h.block k hk hn)⟩
theorem Grew.putObj {rows : List Nat} {A B : World} (h : Grew rows A B) {l : Nat} (o : Obj) (hl : l ∈ rows ∨ A.heap.size ≤ l) : Grew rows A (B.putObj l o) :=
  ⟨h.os, h.tape, h.output, by simp only [World.putObj_size]; exact h.size, fun k hk hn => (World.putObj_heap_other (by rintro rfl; rcases hl with hr | hr; exact hn hr; omega)).trans (h.block k hk hn)⟩
theorem Grew.of_below {rows : List Nat} {n : Nat} {A B C : World} (h : Grew rows A B) (hb : Below n B C) (hn : A.heap.size ≤ n) : Grew rows A C :=
  ⟨hb.os.trans h.os, hb.tape.trans h.tape, hb.output.trans h.output, Nat.le_trans h.size hb.size, fun k hk hnr => (hb.block k (by omega)).trans (h.block k hk hnr)⟩
theorem Grew.below {rows : List Nat} {n : Nat} {A B : World} (h : Grew rows A B) (hn : n ≤ A.heap.size) (hr : ∀ r, r ∈ rows → n ≤ r) : Below n A B :=
  ⟨h.os, h.tape, h.output, h.size, fun k hk => h.block k (by omega) (fun hm => by have := hr k hm; omega)⟩
theorem Below.grew {A B : World} (h : Below A.heap.size A B) (rows : List Nat) : Grew rows A B := ⟨h.os, h.tape, h.output, h.size, fun k hk _ => h.block k hk⟩
theorem Has.grew {rows : List Nat} {A B : World} {r : Nat} {o : Obj} (h : Has A r o) (hg : Grew rows A B) (hr : r ∉ rows) : Has B r o := (hg.block r h.lt hr).trans h
theorem own_grew {β : Type} {rows : List Nat} {A : World} : OwnFrom A.heap.size (fun (_ : β) W => Grew rows A W) := by
  intro s X Y row hs hg hrow
  refine ⟨hg.os.trans hs.os, hg.tape.trans hs.tape, hg.output.trans hs.output, Nat.le_trans hs.size hg.size, fun k hk hn => ?_⟩
  refine (hg.block k (Nat.lt_of_lt_of_le hk hs.size) (fun e => ?_)).trans (hs.block k hk hn)
  have := (hrow k e.symm).1
  omega
theorem Has.new' {W : World} {r : Nat} {o : Obj} (h : r = W.heap.size) : Has (W.alloc o) r o := h ▸ Has.new W o

/-! ### A region that draws its order, by a schedule: what yields one value in every world of a class is taken first; what acts stands alone -/
def OnlyNormal (K : Act → World → Prop) : Exit → Act → World → Prop
  | .normal, a, w => K a w
  | _, _, _ => False

def Sched (P : Program) (ops : Array Oper) (S : World → Prop) (K : Act → World → Prop) : List (Nat × Bool) → Act → World → Prop
  | [], a, w => K a w
  | (i, false) :: r, a, w => ∃ o v, ops[i]? = some o ∧ YieldsIf P ops S o v a ∧ Sched P ops S K r (a.put o.dst v) w
  | (i, true) :: r, a, w => wpOp P ops (OnlyNormal K) i (fun a' w' => S w' ∧ Sched P ops S K r a' w') a w

/-- The schedule fits the region: it is asked of the region's text alone. -/
def schedB (ops : Array Oper) : List (Nat × Bool) → Array Bool → Bool
  | [], listed => (Region.ready .any ops listed).isEmpty
  | (i, false) :: r, listed => (Region.ready .any ops listed).contains i && Region.free .any ops listed i && schedB ops r (listed.setIfInBounds i true)
  | (i, true) :: r, listed => decide (Region.ready .any ops listed = [i]) && schedB ops r (listed.setIfInBounds i true)
def fitsB (ops : Array Oper) (σ : List (Nat × Bool)) : Bool :=
  Region.noSelect ops && decide (σ.length = ops.size) && schedB ops σ (Array.replicate ops.size false)

theorem sched_sound {P : Program} {ops : Array Oper} {S : World → Prop} {K : Act → World → Prop} (hs : Region.noSelect ops = true) :
    ∀ (σ : List (Nat × Bool)) (listed : Array Bool) (a : Act) (w : World), schedB ops σ listed = true → S w → Sched P ops S K σ a w →
      wpAnyH P .any ops (OnlyNormal K) S σ.length listed a w
  | [], listed, a, w, hB, _, h => wpAnyH_done (by simpa [schedB] using hB) h _
  | (i, false) :: r, listed, a, w, hB, hS, h => by
    obtain ⟨o, v, ho, hy, h⟩ := h
    simp only [schedB, Bool.and_eq_true] at hB
    exact wpAnyH_take ho hs hB.1.2 hB.1.1 (fun _ _ _ h => h.elim) hy hS (sched_sound hs r _ _ _ hB.2 hS h)
  | (i, true) :: r, listed, a, w, hB, hS, h => by
    simp only [schedB, Bool.and_eq_true, decide_eq_true_eq] at hB
    refine wpAnyH_all hB.1 (by simp) fun j hj => ?_
    obtain rfl : j = i := by simpa using hj
    exact wpOp_mono (fun a' w' ⟨h1, h2⟩ => ⟨h1, sched_sound hs r _ _ _ hB.2 h1 h2⟩) h

theorem fits_any {P : Program} {ops : Array Oper} {S : World → Prop} {K : Act → World → Prop} {σ : List (Nat × Bool)} {a : Act} {w : World} (hB : fitsB ops σ = true) (hS : S w) (h : Sched P ops S K σ a w) :
    wpAny P .any ops (OnlyNormal K) ops.size (Array.replicate ops.size false) a w := by
  simp only [fitsB, Bool.and_eq_true, decide_eq_true_eq] at hB
  have := sched_sound hB.1.1 σ _ a w hB.2 hS h
  rw [hB.1.2] at this
  exact wpAny_of_held _ _ _ _ this

/-- In a plain walk. -/
theorem wp_region_sched {P : Program} {id : Nat} {ops : Array Oper} {Q : Exit → Act → World → Prop} {a : Act} {w : World} (σ : List (Nat × Bool)) (S : World → Prop)
    (hm : P.follows .mixedOrders = true) (hB : fitsB ops σ = true) (hS : S w.drew) (h : Sched P ops S (Q .normal) σ a w.drew) : (Code.region id ops true).wp P Q a w := by
  have h1 : (Code.region id ops true).wp P (OnlyNormal (Q .normal)) a w := wp_region_any hm (fits_any hB hS h)
  intro b k cs
  obtain ⟨e, a', w', hq, r⟩ := h1 b k cs
  cases e <;> first | exact ⟨_, _, _, hq, r⟩ | exact hq.elim

def Region.noDefer (ops : Array Oper) : Bool := ops.all fun o => match o.op with | .defer .. => false | _ => true
theorem Region.noDefer_spec {ops : Array Oper} (h : Region.noDefer ops = true) {j : Nat} {o : Oper} (ho : ops[j]? = some o) : ∀ c, o.op ≠ .defer c := by
  intro c hc
  have hj := (Array.getElem?_eq_some_iff.1 ho)
  obtain ⟨hlt, hge⟩ := hj
  have := (Array.all_eq_true.1 h) j hlt
  rw [hge, hc] at this
  cases this

theorem wpOpIn_of_wpOp {P : Program} {l : Nat} {ops : Array Oper} {K : Act → World → Prop} {i : Nat} {Ko K' : Act → World → Prop} {a : Act} {w : World} (hd : Region.noDefer ops = true)
    (hK : ∀ a w, K a w → K' a w) (h : wpOp P ops (OnlyNormal Ko) i K a w) : wpOpIn (Fence.wide.inRound l) 0 P ops (OnlyNormal Ko) i K' a w := by
  unfold wpOp at h
  unfold wpOpIn
  cases ho : ops[i]? with
  | none => rw [ho] at h; exact hK _ _ h
  | some o =>
    rw [ho] at h
    simp only at h ⊢
    split
    · rename_i hw
      rw [if_pos hw] at h
      rcases h with h | ⟨_, a₀, w₀, hf⟩
      · refine ⟨fun _ _ => trivial, ?_⟩
        have hsem : o.semAt (Fence.wide.inRound l).round a.eval = execOp a.eval o := Oper.semAt_eq _ _ _ (Region.noDefer_spec hd ho)
        rw [hsem]
        unfold Oper.wp at h
        generalize hr : (execOp a.eval o).run P w = r at *
        cases r with
        | ok x w' =>
          cases x <;> simp only [Oper.upon, Oper.uponIn] at h ⊢ <;>
            first
              | exact hK _ _ h
              | exact False.elim h
              | exact ⟨(fun h => by cases h), CallsIn.inRound l (callsIn_wide.2 (Calls.mono h (fun e w'' he => by cases e <;> first | exact hK _ _ he | exact he)))⟩
              | exact ⟨(fun h => by cases h), fun c cs _ => by obtain ⟨v, w₂, hR, hs⟩ := h c cs; exact ⟨v, w₂, hK _ _ hR, stepsIn_wide.2 hs⟩⟩
        | halt x w' => cases x <;> simp only [Oper.upon] at h <;> exact h.elim
      · exact hf.elim
    · rename_i hw
      rw [if_neg hw] at h
      exact ⟨fun _ _ => trivial, hK _ _ h⟩

theorem wpAnyIn_of_wpAny {P : Program} {l : Nat} {ops : Array Oper} {K : Act → World → Prop} (hd : Region.noDefer ops = true) : ∀ (fuel : Nat) (listed : Array Bool) (a : Act) (w : World),
    wpAny P .any ops (OnlyNormal K) fuel listed a w → wpAnyIn (Fence.wide.inRound l) 0 P .any ops (OnlyNormal K) fuel listed a w
  | 0, _, _, _, h => h
  | fuel + 1, _, _, _, h => ⟨h.1, fun i hi => wpOpIn_of_wpOp hd (fun a' w' => wpAnyIn_of_wpAny hd fuel _ a' w') (h.2 i hi)⟩

/-- In a round's walk. -/
theorem wpIn_region_sched {P : Program} {l id : Nat} {ops : Array Oper} {Q : Exit → Act → World → Prop} {a : Act} {w : World} (σ : List (Nat × Bool)) (S : World → Prop)
    (hm : P.follows .mixedOrders = true) (hd : Region.noDefer ops = true) (hB : fitsB ops σ = true) (hS : S w.drew) (h : Sched P ops S (Q .normal) σ a w.drew) : (Code.region id ops true).wpIn (Fence.wide.inRound l) 0 P Q a w :=
  wpIn_mono (wpIn_region_any hm (wpAnyIn_of_wpAny hd _ _ _ _ (fits_any hB hS h))) fun e a' w' hq => by
    cases e <;> first | exact hq | exact hq.elim

section
variable {P : Program} {ops : Array Oper} {S : World → Prop} {K : Act → World → Prop} {r : List (Nat × Bool)} {i : Nat} {a : Act} {w : World}
theorem sched_end (h : K a w) : Sched P ops S K [] a w := h
theorem sched_pure {o : Oper} {v : Value} (ho : ops[i]? = some o) (hw : Region.wanted o (yielded ops a.tmps) = true) (hy : ∀ w, S w → (execOp a.eval o).run P w = .ok (.value v) w)
    (h : Sched P ops S K r (a.put o.dst v) w) : Sched P ops S K ((i, false) :: r) a w := ⟨o, v, ho, .inl ⟨hw, hy⟩, h⟩
theorem sched_idle {o : Oper} {b : Bool} (ho : ops[i]? = some o) (hw : Region.wanted o (yielded ops a.tmps) = false)
    (hS : S w) (h : Sched P ops S K r (a.put o.dst undef) w) : Sched P ops S K ((i, b) :: r) a w := by
  cases b with
  | false => exact ⟨o, undef, ho, .inr ⟨hw, rfl⟩, h⟩
  | true =>
    show wpOp P ops _ i _ a w
    unfold wpOp
    rw [ho]
    simp only [hw, Bool.false_eq_true, if_false]
    exact ⟨hS, h⟩
theorem sched_act {o : Oper} (ho : ops[i]? = some o) (hw : Region.wanted o (yielded ops a.tmps) = true)
    (h : o.wp P a w (fun a' w' => S w' ∧ Sched P ops S K r a' w') (OnlyNormal K)) : Sched P ops S K ((i, true) :: r) a w := by
  show wpOp P ops _ i _ a w
  unfold wpOp
  rw [ho]
  simp only [hw, if_true]
  exact .inl h
theorem sched_call {o : Oper} {f : FuncId} {args : Array Value} {v : Value} (ho : ops[i]? = some o) (hw : Region.wanted o (yielded ops a.tmps) = true)
    (hr : (execOp a.eval o).run P w = .ok (.enter f args) w) (hc : Calls P f args w fun e w' => e = .returned v ∧ Below w.heap.size w w')
    (h : ∀ w', Below w.heap.size w w' → S w' ∧ Sched P ops S K r (a.put o.dst v) w') : Sched P ops S K ((i, true) :: r) a w := by
  refine sched_act ho hw ?_
  unfold Oper.wp
  rw [hr]
  exact hc.mono fun e w' ⟨he, hb⟩ => by subst he; exact h w' hb
end

end Go.Proofs.Ytedckelfdkfkoaa
