/- A range over an iterator that reads what the loop keeps. (No program in sight.) -/
import Derived.Test.YtedckelfdkfkoaaK
namespace Go.Proofs.Ytedckelfdkfkoaa
open Go.RowKit

/-- As Iter; Kw: what the iterator asks of every world that the loop hands back to it. -/
def IterK {α : Type} (P : Program) (g : Nat) (lb : Array Value) (encs : α → Array Value) (L : List α) (n₀ : Nat) (w : World) (Kw : World → Prop) : Prop :=
  ∀ (l : Nat) (J Jx : List α → World → Prop) (W : World), Below w.heap.size w W → (∀ pre W, J pre W → Kw W) → AbidesFrom W.heap.size J → AbidesFrom W.heap.size Jx →
    (∀ pre x W1, J pre W1 → pre ++ [x] <+: L → YieldAt Fence.wide 0 P l (encs x) W1 fun e W' =>
      (e = .returned (.bool true) ∧ J (pre ++ [x]) W' ∧ Below n₀ W1 W') ∨ (e = .returned (.bool false) ∧ Jx (pre ++ [x]) W')) →
    J [] W →
    CallsIn Fence.wide 0 P g (#[.func (.yield l) #[] #[]] ++ lb) W fun e W' => (∃ v, e = .returned v) ∧ (J L W' ∨ ∃ pre, pre <+: L ∧ Jx pre W')

/-- THE RANGE OVER SUCH AN ITERATOR. D: the block for the rounds' deferred calls. -/
theorem wpIn_rangeK {α : Type} {P : Program} {g : Operand} {ps : Array Tmp} {assign body : Code} {Q : Exit → Act → World → Prop} {a : Act} {w : World}
    {gf : Nat} {lb : Array Value} (hg : a.eval g = .func (.func gf) #[] lb) (eg : ∀ args w, (callFunc gf args).run P w = .ok (.enter gf args) w)
    {encs : α → Array Value} {L : List α} {n₀ : Nat} {w0 : World} {Kw : World → Prop} (hit : IterK P gf lb encs L n₀ w0 Kw) (hn₀ : n₀ ≤ w.heap.size) (hb0 : Below w0.heap.size w0 w) (hps : ∀ x, (encs x).size = ps.size)
    (I : List α → World → Prop) (Ix : Code → List α → World → Prop) (hI : OwnFrom w.heap.size I) (hIK : ∀ pre W, I pre W → Kw W) (hIx : ∀ c, OwnFrom w.heap.size (Ix c)) (h0 : I [] w)
    (hround : ∀ (l : Nat) (pre : List α) (x : α) (W : World), I pre W → pre ++ [x] <+: L →
      assign.wpIn (Fence.wide.inRound l) 0 P (Exit.then (RoundOk P l w.heap.size n₀ I Ix body (pre ++ [x]) W) (fun _ _ _ => False)) { tmps := (ps.zip (encs x)).foldl (fun t (p, v) => t.setIfInBounds p v) a.tmps, defers := [] } W)
    (hdone : ∀ (D : Nat) (W : World), w.heap.size ≤ D → I L W → Has W D (.deferred (some [])) → Q .normal { a with defers := { target := .collected D, args := #[] } :: a.defers } W)
    (hstop : ∀ (D : Nat) (c : Code) (pre : List α) (W : World), w.heap.size ≤ D → pre <+: L → Ix c pre W → Has W D (.deferred (some [])) → c.wpIn Fence.wide 0 P Q { a with defers := { target := .collected D, args := #[] } :: a.defers } W) :
    (Code.rangeFunc g ps assign body).wpIn Fence.wide 0 P Q a w := by
  refine wpIn_rangeFunc fun fn hfn => ?_
  rw [show Fence.wide.round = none from rfl]
  obtain ⟨B, hB⟩ : ∃ B, w.heap.size = B := ⟨_, rfl⟩
  rw [hB] at hn₀ hI hIx hround hdone hstop
  obtain ⟨rec, hrec⟩ : ∃ rec : LoopState → Option Code → Loop, rec = fun st pe => { state := st, pending := pe, fn, tmps := a.tmps, params := ps, assign, body, defers := B } := ⟨_, rfl⟩
  obtain ⟨W1, hW1⟩ : ∃ W1, (w.alloc (.deferred (some []))).alloc (.loop (rec .ready none)) = W1 := ⟨_, rfl⟩
  have sz1 : W1.heap.size = B + 2 := by rw [← hW1, ← hB]; simp
  have bk1 : Book B B (B + 1) (.loop (rec .ready none)) W1 := by
    refine ⟨?_, ?_, by omega, Nat.le_refl _, by omega⟩
    · rw [← hW1, ← hB]; have := World.alloc_heap_new (w.alloc (.deferred (some []))) (.loop (rec .ready none)); rwa [World.size_alloc] at this
    · rw [← hW1, ← hB]; exact (Below.heap_alloc _ _ _ (by simp)).trans (World.alloc_heap_new w _)
  have i1 : I [] W1 := by rw [← hW1]; exact hI.alloc _ (hI.alloc _ h0)
  have hb1 : Below w0.heap.size w0 W1 := by
    rw [← hW1]; exact hb0.trans ((((Below.refl _ w).alloc (Nat.le_refl _) _).alloc (by simp) _).mono hb0.size)
  have put : ∀ (W : World) (o o' : Obj), W.heap[B + 1]? = some o → o.isCells = false → o.isWalk = false → Below n₀ W (W.putObj (B + 1) o') :=
    fun W o o' h hc hw => belowK_b (w := w) (by omega) W _ o o' (by omega) h hc hw
  refine ⟨B + 1, [{ target := .collected B, args := #[] }], W1, { target := .fn (.func gf) lb, args := #[.func (.yield (B + 1)) #[] #[]] }, W1, gf,
    #[.func (.yield (B + 1)) #[] #[]] ++ lb, W1, ?_, ?_, fun _ _ => trivial, ?_, (fun h => by cases h), ?_⟩
  · rw [← hW1, hrec, ← hB]; exact run_enterLoop_outer _ _ _ _ _
  · simp only [resolve, hg]; simp [go_sem]
  · simp [invoke, go_sem, eg]
  have low : ∀ {X : World} {row : Option Nat}, (∀ r, row = some r → W1.heap.size ≤ r ∧ ∃ o : Obj, X.heap[r]? = some o ∧ o.isWalk = true) → ∀ r, row = some r → B ≤ r ∧ ∃ o : Obj, X.heap[r]? = some o ∧ o.isCells = false :=
    fun hr r e => by obtain ⟨h1, o, ho, hw⟩ := hr r e; exact ⟨by omega, o, ho, Obj.not_cells_of_walk hw⟩
  refine (hit (B + 1) (fun pre W => I pre W ∧ Book B B (B + 1) (.loop (rec .ready none)) W) (fun pre W => ∃ c, Ix c pre W ∧ Book B B (B + 1) (.loop (rec .done (some c))) W) W1 hb1 (fun pre W h => hIK pre W h.1)
    (fun s X Y row hs hg' hr => ⟨hI s X Y row hs.1 hg' (low (X := X) hr), hs.2.grown hg' (fun r e => (hr r e).2) rfl⟩)
    (fun s X Y row ⟨c, hc, hk⟩ hg' hr => ⟨c, hIx c s X Y row hc hg' (low (X := X) hr), hk.grown hg' (fun r e => (hr r e).2) rfl⟩)
    (fun pre x W ⟨hi, hbk⟩ hpre => ?_) ⟨i1, bk1⟩).mono ?_
  · have hy := run_yield (P := P) (args := encs x) hbk.rcd (by rw [hrec]; exact hps x)
    rw [hrec] at hy
    refine ⟨fn, _, assign, body, hy, roundIn_of_wpIn hfn (wpIn_mono (hround (B + 1) pre x W hi hpre) ?_)⟩
    rintro e a₁ W₁ hok
    cases e with
    | normal =>
      obtain ⟨hkW, hbW, J, hJ, hJ₁, hbody⟩ := hok
      have bk₁ := hbk.keeps rfl hkW
      refine ⟨_, run_beginRound bk₁.rcd (by rw [hrec]), wpIn_mono (hbody _ (hJ.putObj (s := ()) _ hJ₁ (by omega) bk₁.rcd rfl)) ?_⟩
      have bk₂ := bk₁.put (.loop { rec .ready none with state := .busy })
      have fin : ∀ (jump : Option Code) (W₃ : World), KeepsFrom B (W₁.putObj (B + 1) (.loop { rec .ready none with state := .busy })) W₃ →
          (Instr.endRound (B + 1) jump).run P W₃ = .ok (.bool jump.isNone) (W₃.putObj (B + 1) (.loop (rec (if jump.isNone then .ready else .done) jump))) ∧
          Book B B (B + 1) (.loop { rec .ready none with state := .busy }) W₃ := fun jump W₃ hk₃ => by
        have b₃ := bk₂.keeps rfl hk₃
        have := run_endRound (P := P) jump b₃.rcd
        rw [hrec] at this ⊢
        exact ⟨this, by rw [hrec] at b₃; exact b₃⟩
      have out : ∀ (c : Code) (W₃ : World), KeepsFrom B (W₁.putObj (B + 1) (.loop { rec .ready none with state := .busy })) W₃ → Ix c (pre ++ [x]) W₃ →
          ∃ v w', (Instr.endRound (B + 1) (some c)).run P W₃ = .ok v w' ∧ ((Ending.returned v = .returned (.bool true) ∧ (I (pre ++ [x]) w' ∧ Book B B (B + 1) (.loop (rec .ready none)) w') ∧ Below n₀ W w') ∨
            (Ending.returned v = .returned (.bool false) ∧ ∃ c, Ix c (pre ++ [x]) w' ∧ Book B B (B + 1) (.loop (rec .done (some c))) w')) := fun c W₃ hk₃ hi₃ => by
        obtain ⟨hr, b₃⟩ := fin (some c) W₃ hk₃
        exact ⟨_, _, hr, .inr ⟨rfl, c, (hIx _).putObj _ hi₃ (by omega) b₃.rcd rfl, b₃.put _⟩⟩
      rintro e a₃ W₃ hp
      cases e with
      | normal =>
        obtain ⟨hk₃, hb₃, hi₃⟩ := hp
        obtain ⟨hr, b₃⟩ := fin none W₃ hk₃
        exact ⟨_, _, hr, .inl ⟨rfl, ⟨hI.putObj _ hi₃ (by omega) b₃.rcd rfl, b₃.put _⟩, ((hbW.trans (put _ _ _ bk₁.rcd rfl rfl)).trans hb₃).trans (put _ _ _ b₃.rcd rfl rfl)⟩⟩
      | ret => exact out _ _ hp.1 hp.2
      | exit id => exact out _ _ hp.1 hp.2
      | goto t => exact out _ _ hp.1 hp.2
      | panic ch => exact hp.elim
      | outgrown => exact hp.elim
    | exit id => exact hok.elim
    | goto t => exact hok.elim
    | ret => exact hok.elim
    | panic ch => exact hok.elim
    | outgrown => exact hok.elim
  · rintro e W2 ⟨⟨v, rfl⟩, (⟨hi, hbk⟩ | ⟨pre, hpre, c, hi, hbk⟩)⟩
    · exact ⟨none, _, by have := run_endLoop (P := P) hbk.rcd (by rw [hrec]; simp); rw [hrec] at this; exact this, hdone _ _ (Nat.le_refl _) (hI.putObj _ hi (by omega) hbk.rcd rfl) (hbk.put _).defs⟩
    · exact ⟨some c, _, by have := run_endLoop (P := P) hbk.rcd (by rw [hrec]; simp); rw [hrec] at this; exact this, hstop _ c pre _ (Nat.le_refl _) hpre ((hIx c).putObj _ hi (by omega) hbk.rcd rfl) (hbk.put _).defs⟩
/-- The same in a plain walk, no round leaving early. -/
theorem wp_rangeK {α : Type} {P : Program} {g : Operand} {ps : Array Tmp} {assign body : Code} {Q : Exit → Act → World → Prop} {a : Act} {w : World}
    {gf : Nat} {lb : Array Value} (hg : a.eval g = .func (.func gf) #[] lb) (eg : ∀ args w, (callFunc gf args).run P w = .ok (.enter gf args) w)
    {encs : α → Array Value} {L : List α} {n₀ : Nat} {w0 : World} {Kw : World → Prop} (hit : IterK P gf lb encs L n₀ w0 Kw) (hn₀ : n₀ ≤ w.heap.size) (hb0 : Below w0.heap.size w0 w) (hps : ∀ x, (encs x).size = ps.size)
    (I : List α → World → Prop) (hI : OwnFrom w.heap.size I) (hIK : ∀ pre W, I pre W → Kw W) (h0 : I [] w)
    (hround : ∀ (l : Nat) (pre : List α) (x : α) (W : World), I pre W → pre ++ [x] <+: L →
      assign.wpIn (Fence.wide.inRound l) 0 P (Exit.then (RoundOk P l w.heap.size n₀ I (fun _ _ _ => False) body (pre ++ [x]) W) (fun _ _ _ => False)) { tmps := (ps.zip (encs x)).foldl (fun t (p, v) => t.setIfInBounds p v) a.tmps, defers := [] } W)
    (hdone : ∀ (D : Nat) (W : World), w.heap.size ≤ D → I L W → Has W D (.deferred (some [])) → Q .normal { a with defers := { target := .collected D, args := #[] } :: a.defers } W) :
    (Code.rangeFunc g ps assign body).wp P Q a w :=
  wpIn_wide.1 (wpIn_rangeK hg eg hit hn₀ hb0 hps I (fun _ _ _ => False) hI hIK (fun _ => own_false) h0 hround hdone (fun _ _ _ _ _ _ h _ => h.elim))
end Go.Proofs.Ytedckelfdkfkoaa
