/- Proved: the law TileSums returns true for every input, and each argument reads afterwards as it read before. No condition. -/
import Derived.Test.YtedckelfdkfkoaaRows
import Derived.Test.YtedckelfdkfkoaaZ
import Derived.Test.YtedckelfdkfkoaaSm
import Derived.Test.YtedckelfdkfkoaaQ
import Derived.WalkKit
import Derived.ProofKit
import Derived.OpenShut
import Derived.ShutString
import Derived.ChangeOld
import Derived.Below
namespace Go.Proofs.Ytedckelfdkfkoaa
open Go.ChangeShapes Go.WideShapes Go.ChangeAt Go.RowKit
open Go.ChangeMaps (open_string shut_string)

theorem ownTileSums : ownKnob Try.prog.godebug = none := by kernel_rfl
theorem laidOutTileSums : laidOutB Try.prog = true := by kernel_rfl

set_option maxRecDepth 100000 in
theorem liftedTileSums (os : Os) (started : os.Started) (H : Type) (enc : TypeId × Value → H) :
    ReturnsInHanded {} Try.checked os 8 .any (Rows.tileSumsSpec.pre6 enc Try.prog Try.f8 Rows.tileSumsRow.domain false) (Rows.tileSumsSpec.post enc Try.prog Try.f8 false true false false) := by
  refine returnsInHanded_of_change (C := Try.checked) ownTileSums started (by kernel_rfl) Try.func8
    (ChangeSpec.witness6 (enc := enc) (C := Try.checked) false ⟨#[], #[.agg (Array.replicate 256 (.int .u8 0)), .int .i64 0, .int .i64 0], []⟩ 8 (by kernel_rfl) (by kernel_rfl) (by kernel_rfl) (by kernel_rfl)) ?_
  intro W base args ds gs before hval0 hW hcnd _
  have hval : ∀ (j : Nat) t v, Try.f8.params[j]? = some t → args[j]? = some v → Value.okWide Try.prog W .any base t v := hval0
  have hW' := hW
  obtain ⟨p, q, hA0, hV, rfl, hfz, hnd⟩ := hW
  have hA : DataW.TrodAll enc Try.prog W 0 (fun _ => true) true Try.f8.params.toList args.toList ds p := hA0
  rw [Try.params8] at hA hval
  obtain ⟨v0, vs0, d0, ds0, p0, q0, hargs, rfl, rfl, h0, r0⟩ := trodAll_cons hA
  obtain ⟨v1, vs1, d1, ds1, p1, q1, rfl, rfl, rfl, h1, r1⟩ := trodAll_cons r0
  obtain ⟨v2, vs2, d2, ds2, p2, q2, rfl, rfl, rfl, h2, r2⟩ := trodAll_cons r1
  obtain ⟨rfl, rfl, rfl⟩ := trodAll_nil r2
  obtain rfl : args = #[v0, v1, v2] := by cases args; simp_all
  obtain ⟨rfl, rfl⟩ := trodVars_none hV
  have k0 := h0
  have lt0 : ∀ x ∈ p0, x.block < W.heap.size := by obtain ⟨m, hm⟩ := k0; exact DataW.trod_lt m _ _ _ hm
  have bel0 := fun (W' : World) (bel : Below W.heap.size W W') => Below.trod (P := Try.prog) laidOutTileSums (t := 25) (by kernel_rfl) (of_decide_eq_true (by kernel_rfl)) k0 bel lt0
  have k1 := h1
  have lt1 : ∀ x ∈ p1, x.block < W.heap.size := by obtain ⟨m, hm⟩ := k1; exact DataW.trod_lt m _ _ _ hm
  have bel1 := fun (W' : World) (bel : Below W.heap.size W W') => Below.trod (P := Try.prog) laidOutTileSums (t := 3) (by kernel_rfl) (of_decide_eq_true (by kernel_rfl)) k1 bel lt1
  have k2 := h2
  have lt2 : ∀ x ∈ p2, x.block < W.heap.size := by obtain ⟨m, hm⟩ := k2; exact DataW.trod_lt m _ _ _ hm
  have bel2 := fun (W' : World) (bel : Below W.heap.size W W') => Below.trod (P := Try.prog) laidOutTileSums (t := 3) (by kernel_rfl) (of_decide_eq_true (by kernel_rfl)) k2 bel lt2
  obtain ⟨T0, L0, rfl, by0⟩ := open_tile (hval 0 25 v0 rfl rfl) h0
  obtain ⟨n1, rfl, rfl, rfl, w1⟩ := open_int Try.underlying3 (hval 1 3 v1 rfl rfl) h1
  obtain ⟨n2, rfl, rfl, rfl, w2⟩ := open_int Try.underlying3 (hval 2 3 v2 rfl rfl) h2
  clear hA0 hval0
  refine (sums_law T0 n1 n2 _ L0 by0).mono fun e W' ⟨he, bel⟩ => ?_
  subst he
  exact ⟨_, rfl, _, _, _, [], _, [], hW', trodAll_mk1 (shut_bool Try.underlying4 _), (trodAll_cons_mk (bel0 W' bel) (trodAll_cons_mk (bel1 W' bel) (trodAll_cons_mk (bel2 W' bel) trodAll_mk0))), rfl, bel.frame _, fun h => by cases h⟩

theorem inPlaceTileSums : Try.pinned.checked.prog.inPlace 8 = Rows.tileSumsRow.inPlace := by kernel_rfl
theorem unfTileSums : Try.pinned.checked.prog.unfollowed 8 = Rows.tileSumsRow.unfollowed := by kernel_rfl
theorem recTileSums : Try.pinned.checked.prog.recurses 8 = Rows.tileSumsRow.recurses := by kernel_rfl
theorem namedTileSums : Try.pinned.checked.prog.varsNamed 8 = Rows.tileSumsRow.named := by kernel_rfl
theorem closedTileSums : joinedFacts Try.pinned.checked.prog 8 Try.f8 Rows.tileSumsSpec Rows.tileSumsRow = true := by
  unfold joinedFacts
  rw [laidT, mapsT, inPlaceTileSums, unfTileSums, recTileSums, namedTileSums, heardT, enterT, liftT, makeT, keysT]
  kernel_rfl

theorem overTileSums : Rows.tileSumsRow.holds Try.pinned (OpenSpec.ofChange Rows.tileSumsSpec) :=
  OpenClaim.holds_of_wide 8 Try.f8 rfl rfl rfl rfl rfl rfl rfl ⟨rfl, rfl, rfl, rfl, rfl⟩ rfl rfl rfl rfl rfl (by kernel_rfl) Try.func8 closedTileSums
    (of_decide_eq_true (by kernel_rfl)) (by unfold Func.isWrapper; first | (rw [if_pos (by decide +kernel)]; kernel_rfl) | (rw [if_neg (by decide +kernel)]; exact ⟨rfl, rfl⟩))
    (fun os started H enc _ => liftedTileSums os started H enc)

theorem provedTileSums : Rows.TileSumsSaid := overTileSums
end Go.Proofs.Ytedckelfdkfkoaa
