/- Walks: the colour of a text. -/
import Derived.Test.YtnladfpckejogaaU
import Derived.Defers
import Derived.Recover
import Derived.Laws.RangeAny
import Derived.Deep.LoopGhost
import Derived.WalkLawsBesides
namespace Go.Proofs.Ytnladfpckejogaa
open Go.RowKit Go.Shelf
attribute [local go_sem] Oper.semAt_some

/-- a digit's number -/
def digV (c : Int) : Option Int := if 48 ≤ c ∧ c ≤ 57 then some (c - 48) else if 97 ≤ c ∧ c ≤ 102 then some (c - 87) else none
theorem digV_bd {c d : Int} (h : digV c = some d) : 0 ≤ d ∧ d < 16 := by
  unfold digV at h
  split at h
  · cases h; omega
  · split at h
    · cases h; omega
    · cases h
abbrev noneE : List PanicEntry := [{ v := .iface 66 (.agg #[]), recovered := false }]

set_option maxHeartbeats 400000 in
theorem digit_any (c : Int) (w : World) (h0 : -2147483648 ≤ c) (h1 : c < 2147483648) :
    Calls Try.prog 33 #[.int .i32 c] w fun e w' => e = (match digV c with | some d => .returned (.int .u32 d) | none => .panicked noneE) ∧ w' = w := by
  by_cases a1 : 48 ≤ c ∧ c ≤ 57
  · obtain ⟨a1, a2⟩ := a1
    have e : digV c = some (c - 48) := by simp [digV, a1, a2]
    rw [e]
    clear e
    go_enter Try.func33, Try.ntmps33
    go_wp2
    go_ret
    exact ⟨rfl, rfl⟩
  · by_cases a2 : 97 ≤ c ∧ c ≤ 102
    · have e : digV c = some (c - 87) := by simp [digV, a1, a2]
      rw [e]
      clear e
      obtain ⟨a2, a3⟩ := a2
      clear a1
      go_enter Try.func33, Try.ntmps33
      go_wp2
      go_ret
      exact ⟨congrArg (fun n => Ending.returned (Value.int .u32 n)) (by omega), rfl⟩
    · have e : digV c = none := by simp [digV, a1, a2]
      rw [e]
      clear e
      go_enter Try.func33, Try.ntmps33
      go_wp2
      all_goals exact ⟨rfl, rfl, rfl⟩

set_option maxHeartbeats 1000000 in
/-- the closure that recovers, where nothing panics -/
theorem catch_idle (p q : Addr) (w : World) :
    CallsD Try.prog 32 #[.pointer (some p), .pointer (some q)] .returning w fun e u' w' => e = .returned (.tuple #[]) ∧ u' = .returning ∧ w' = w := by
  refine callsD_of_wpS Try.func32 rfl fun c₀ cs hu => ?_
  simp only [Try.ntmps32, List.size_toArray, List.length_cons, List.length_nil, Nat.reduceAdd, Nat.reduceSub, Array.replicate_succ, Array.replicate_zero, List.push_toArray, List.append_toArray, List.nil_append, List.cons_append]
  apply wpS_seq
  apply wpS_region
  simp [wpOpsS, go_sem, recoverD, hu, Exit.thenS]
  refine wpS_of_wp ?_
  go_wp2
  cases c₀
  simp_all [bodyPostS, results, Try.f32]

set_option maxHeartbeats 1000000 in
theorem catch_panicking (p q : Addr) (older : List PanicEntry) (w : World) {x0 x1 x2 x3 y : Value} {bp bq : Nat} (hp : p = ⟨bp, 0, none⟩) (hq : q = ⟨bq, 0, none⟩) (h0 : Has w bp (.cells #[x0, x1, x2, x3] 27 (0, 0))) (h1 : Has w bq (.cells #[y] 32 (0, 0))) (hne : bp ≠ bq) :
    CallsD Try.prog 32 #[.pointer (some p), .pointer (some q)] (.panicking ({ v := .iface 66 (.agg #[]), recovered := false } :: older)) w fun e u' w' =>
      e = .returned (.tuple #[]) ∧ u' = .panicking ({ v := .iface 66 (.agg #[]), recovered := true } :: older) ∧ Has w' bp (.cells #[.int .u8 0, .int .u8 0, .int .u8 0, .int .u8 0] 27 (0, 0)) ∧ Has w' bq (.cells #[.int .i64 130] 32 (0, 0)) ∧ Grew [bp, bq] w w' := by
  subst hp hq
  have hta : ∀ w, (Instr.typeAssert (.iface 66 (.agg #[])) 20 66 true).run Try.prog w = .ok (.tuple #[.agg #[], .bool true]) w := fun _ => by kernel_rfl
  have j0 := h0.alloc (.cells #[] 66 (0, 0))
  have j1 := h1.alloc (.cells #[] 66 (0, 0))
  have q0 := j0.put4 (.int .u8 0) (.int .u8 0) (.int .u8 0) (.int .u8 0)
  have q1 := j1.put4_other (r := bp) (.int .u8 0) (.int .u8 0) (.int .u8 0) (.int .u8 0) (Ne.symm hne)
  have c0 := j0.four
  have f0 := j0.free4
  have c1 : (w4 (w.alloc (.cells #[] 66 (0, 0))) bp (.int .u8 0) (.int .u8 0) (.int .u8 0) (.int .u8 0)).cell? ⟨bq, 0, none⟩ = some y := q1.cell 0
  have f1 := q1.free 0
  have fin : ∀ Y, (w4 (w.alloc (.cells #[] 66 (0, 0))) bp (.int .u8 0) (.int .u8 0) (.int .u8 0) (.int .u8 0)).setCell ⟨bq, 0, none⟩ (.int .i64 130) = Y →
      Has Y bp (.cells #[.int .u8 0, .int .u8 0, .int .u8 0, .int .u8 0] 27 (0, 0)) ∧ Has Y bq (.cells #[.int .i64 130] 32 (0, 0)) ∧ Grew [bp, bq] w Y := by
    rintro Y rfl
    exact ⟨q0.other (a := ⟨bq, 0, none⟩) _ hne, q1.set 0 _, (((((Grew.refl [bp, bq] w).alloc _).setCell _ (.inl (by simp))).setCell _ (.inl (by simp))).setCell _ (.inl (by simp))).setCell _ (.inl (by simp)) |>.setCell _ (.inl (by simp))⟩
  have Hf := Lib.hid fin
  unfold w4 at c1 f1
  clear fin q0 q1 j0 j1 h0 h1 hne
  refine callsD_of_wpS Try.func32 rfl fun c₀ cs hu => ?_
  simp only [Try.ntmps32, List.size_toArray, List.length_cons, List.length_nil, Nat.reduceAdd, Nat.reduceSub, Array.replicate_succ, Array.replicate_zero, List.push_toArray, List.append_toArray, List.nil_append, List.cons_append]
  apply wpS_seq
  apply wpS_region
  simp [wpOpsS, go_sem, recoverD, hu, Exit.thenS]
  refine wpS_of_wp ?_
  go_wp2
  have hY := Hf.out _ rfl
  cases c₀
  simp_all [bodyPostS, results, Try.f32]
end Go.Proofs.Ytnladfpckejogaa
