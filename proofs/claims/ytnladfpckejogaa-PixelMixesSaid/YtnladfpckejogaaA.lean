/- Walks of the iterator over a colour's parts. -/
import Derived.Test.YtnladfpckejogaaProg
import Derived.Test.YtnladfpckejogaaK
namespace Go.Proofs.Ytnladfpckejogaa
open Go.RowKit Go.Shelf
attribute [local go_sem] Oper.semAt_some

/-- what parts tells -/
def partsL (r g b a : Int) : List (Int × Int) := [(0, r), (1, g), (2, b), (3, a)]
abbrev encP (p : Int × Int) : Array Value := #[.int .i64 p.1, .int .i64 p.2]

set_option maxRecDepth 100000 in
set_option maxHeartbeats 2000000 in
theorem parts1_iter (B n₀ : Nat) (r g b a : Int) (w : World) (_ : n₀ ≤ w.heap.size) (hB : B < w.heap.size)
    (hr : 0 ≤ r ∧ r ≤ 255) (hg : 0 ≤ g ∧ g ≤ 255) (hb : 0 ≤ b ∧ b ≤ 255) (ha : 0 ≤ a ∧ a ≤ 255)
    (c0 : w.cell? ⟨B, 0, none⟩ = some (.int .u8 r)) (c1 : w.cell? ⟨B, 1, none⟩ = some (.int .u8 g)) (c2 : w.cell? ⟨B, 2, none⟩ = some (.int .u8 b)) (c3 : w.cell? ⟨B, 3, none⟩ = some (.int .u8 a)) :
    Iter Try.prog 42 #[.pointer (some ⟨B, 0, none⟩)] encP (partsL r g b a) n₀ w := by
  intro l J Jx W hW hJ hJx hY h0
  have d0 := (hW.cell (p := ⟨B, 0, none⟩) hB).trans c0
  have d1 := (hW.cell (p := ⟨B, 1, none⟩) hB).trans c1
  have d2 := (hW.cell (p := ⟨B, 2, none⟩) hB).trans c2
  have d3 := (hW.cell (p := ⟨B, 3, none⟩) hB).trans c3
  clear c0 c1 c2 c3 hW
  obtain ⟨hr0, hr1⟩ := hr
  obtain ⟨hg0, hg1⟩ := hg
  obtain ⟨hb0, hb1⟩ := hb
  obtain ⟨ha0, ha1⟩ := ha
  refine callsIn_of_wp Try.func42 rfl trivial ?_ rfl
  simp only [Try.ntmps42, List.size_toArray, List.length_cons, List.length_nil, Nat.reduceAdd, Nat.reduceSub, Array.replicate_succ, Array.replicate_zero, List.push_toArray, List.append_toArray, List.nil_append, List.cons_append]
  have i0 : ∀ w, (Instr.index 73 (.agg #[.int .u8 r, .int .u8 g, .int .u8 b, .int .u8 a]) (.int .i64 0)).run Try.prog w = .ok (.int .u8 r) w := fun _ => by kernel_rfl
  have i1 : ∀ w, (Instr.index 73 (.agg #[.int .u8 r, .int .u8 g, .int .u8 b, .int .u8 a]) (.int .i64 1)).run Try.prog w = .ok (.int .u8 g) w := fun _ => by kernel_rfl
  have i2 : ∀ w, (Instr.index 73 (.agg #[.int .u8 r, .int .u8 g, .int .u8 b, .int .u8 a]) (.int .i64 2)).run Try.prog w = .ok (.int .u8 b) w := fun _ => by kernel_rfl
  have i3 : ∀ w, (Instr.index 73 (.agg #[.int .u8 r, .int .u8 g, .int .u8 b, .int .u8 a]) (.int .i64 3)).run Try.prog w = .ok (.int .u8 a) w := fun _ => by kernel_rfl
  refine wpIn_scope_straight (fun _ _ _ h => h) ?_
  refine wpIn_seq_label ?_
  gi_wp2
  refine wpIn_loop_rounds 5 ?_
  rw [roundsIn_succ]
  obtain ⟨f0, t0, as0, bo0, hy0, hR0⟩ := hY (partsL r g b a |>.take 0) (0, r) W h0 ⟨(partsL r g b a).drop 1, rfl⟩
  dsimp only [encP] at hy0
  gi_wp2
  refine ⟨rfl, hR0.mono ?_⟩
  rintro e W0 (⟨rfl, hJ0, _⟩ | ⟨rfl, hx0⟩)
  rotate_left
  · gi_wp2
    go_end0
    exact ⟨⟨_, rfl⟩, .inr ⟨_, ⟨(partsL r g b a).drop 1, rfl⟩, hx0⟩⟩
  gi_wp2
  rw [roundsIn_succ]
  obtain ⟨f1, t1, as1, bo1, hy1, hR1⟩ := hY (partsL r g b a |>.take 1) (1, g) W0 hJ0 ⟨(partsL r g b a).drop 2, rfl⟩
  dsimp only [encP] at hy1
  gi_wp2
  refine ⟨rfl, hR1.mono ?_⟩
  rintro e W1 (⟨rfl, hJ1, _⟩ | ⟨rfl, hx1⟩)
  rotate_left
  · gi_wp2
    go_end0
    exact ⟨⟨_, rfl⟩, .inr ⟨_, ⟨(partsL r g b a).drop 2, rfl⟩, hx1⟩⟩
  gi_wp2
  rw [roundsIn_succ]
  obtain ⟨f2, t2, as2, bo2, hy2, hR2⟩ := hY (partsL r g b a |>.take 2) (2, b) W1 hJ1 ⟨(partsL r g b a).drop 3, rfl⟩
  dsimp only [encP] at hy2
  gi_wp2
  refine ⟨rfl, hR2.mono ?_⟩
  rintro e W2 (⟨rfl, hJ2, _⟩ | ⟨rfl, hx2⟩)
  rotate_left
  · gi_wp2
    go_end0
    exact ⟨⟨_, rfl⟩, .inr ⟨_, ⟨(partsL r g b a).drop 3, rfl⟩, hx2⟩⟩
  gi_wp2
  rw [roundsIn_succ]
  obtain ⟨f3, t3, as3, bo3, hy3, hR3⟩ := hY (partsL r g b a |>.take 3) (3, a) W2 hJ2 ⟨(partsL r g b a).drop 4, rfl⟩
  dsimp only [encP] at hy3
  gi_wp2
  refine ⟨rfl, hR3.mono ?_⟩
  rintro e W3 (⟨rfl, hJ3, _⟩ | ⟨rfl, hx3⟩)
  rotate_left
  · gi_wp2
    go_end0
    exact ⟨⟨_, rfl⟩, .inr ⟨_, ⟨(partsL r g b a).drop 4, rfl⟩, hx3⟩⟩
  gi_wp2
  rw [roundsIn_succ]
  gi_wp2
  go_end0
  exact ⟨⟨_, rfl⟩, .inl hJ3⟩
end Go.Proofs.Ytnladfpckejogaa
