/- Proved: the law TileBoxes returns true for every input, and each argument reads afterwards as it read before. No condition. -/
import Derived.Test.YtedckelfdkfkoaaRows
import Derived.Test.YtedckelfdkfkoaaZ
import Derived.Test.YtedckelfdkfkoaaTb
import Derived.Test.YtedckelfdkfkoaaQ
import Derived.WalkKit
import Derived.ProofKit
import Derived.OpenShut
import Derived.ShutString
import Derived.ChangeOld
import Derived.Below
namespace Go.Proofs.Ytedckelfdkfkoaa
open Go.ChangeShapes Go.WideShapes Go.ChangeAt Go.RowKit
open Go.ChangeMaps (open_string shut_string)

theorem ownTileBoxes : ownKnob Try.prog.godebug = none := by kernel_rfl
theorem laidOutTileBoxes : laidOutB Try.prog = true := by kernel_rfl

set_option maxRecDepth 100000 in
theorem liftedTileBoxes (os : Os) (started : os.Started) (H : Type) (enc : TypeId × Value → H) :
    ReturnsInHanded {} Try.checked os 4 .any (Rows.tileBoxesSpec.pre6 enc Try.prog Try.f4 Rows.tileBoxesRow.domain false) (Rows.tileBoxesSpec.post enc Try.prog Try.f4 false true false false) := by
  refine returnsInHanded_of_change (C := Try.checked) ownTileBoxes started (by kernel_rfl) Try.func4
    (ChangeSpec.witness6 (enc := enc) (C := Try.checked) false ⟨#[], #[.agg (Array.replicate 256 (.int .u8 0)), .agg (Array.replicate 256 (.int .u8 0))], []⟩ 8 (by kernel_rfl) (by kernel_rfl) (by kernel_rfl) (by kernel_rfl)) ?_
  intro W base args ds gs before hval0 hW hcnd _
  have hval : ∀ (j : Nat) t v, Try.f4.params[j]? = some t → args[j]? = some v → Value.okWide Try.prog W .any base t v := hval0
  have hW' := hW
  obtain ⟨p, q, hA0, hV, rfl, hfz, hnd⟩ := hW
  have hA : DataW.TrodAll enc Try.prog W 0 (fun _ => true) true Try.f4.params.toList args.toList ds p := hA0
  rw [Try.params4] at hA hval
  obtain ⟨v0, vs0, d0, ds0, p0, q0, hargs, rfl, rfl, h0, r0⟩ := trodAll_cons hA
  obtain ⟨v1, vs1, d1, ds1, p1, q1, rfl, rfl, rfl, h1, r1⟩ := trodAll_cons r0
  obtain ⟨rfl, rfl, rfl⟩ := trodAll_nil r1
  obtain rfl : args = #[v0, v1] := by cases args; simp_all
  obtain ⟨rfl, rfl⟩ := trodVars_none hV
  have k0 := h0
  have lt0 : ∀ x ∈ p0, x.block < W.heap.size := by obtain ⟨m, hm⟩ := k0; exact DataW.trod_lt m _ _ _ hm
  have bel0 := fun (W' : World) (bel : Below W.heap.size W W') => Below.trod (P := Try.prog) laidOutTileBoxes (t := 25) (by kernel_rfl) (of_decide_eq_true (by kernel_rfl)) k0 bel lt0
  have k1 := h1
  have lt1 : ∀ x ∈ p1, x.block < W.heap.size := by obtain ⟨m, hm⟩ := k1; exact DataW.trod_lt m _ _ _ hm
  have bel1 := fun (W' : World) (bel : Below W.heap.size W W') => Below.trod (P := Try.prog) laidOutTileBoxes (t := 25) (by kernel_rfl) (of_decide_eq_true (by kernel_rfl)) k1 bel lt1
  obtain ⟨T0, L0, rfl, by0⟩ := open_tile (hval 0 25 v0 rfl rfl) h0
  obtain ⟨T1, L1, rfl, by1⟩ := open_tile (hval 1 25 v1 rfl rfl) h1
  clear hA0 hval0
  refine (boxes_law T0 T1 _ L0 L1).mono fun e W' ⟨he, bel⟩ => ?_
  subst he
  exact ⟨_, rfl, _, _, _, [], _, [], hW', trodAll_mk1 (shut_bool Try.underlying4 _), (trodAll_cons_mk (bel0 W' bel) (trodAll_cons_mk (bel1 W' bel) trodAll_mk0)), rfl, bel.frame _, fun h => by cases h⟩

theorem inPlaceTileBoxes : Try.pinned.checked.prog.inPlace 4 = Rows.tileBoxesRow.inPlace := by kernel_rfl
theorem unfTileBoxes : Try.pinned.checked.prog.unfollowed 4 = Rows.tileBoxesRow.unfollowed := by kernel_rfl
theorem recTileBoxes : Try.pinned.checked.prog.recurses 4 = Rows.tileBoxesRow.recurses := by kernel_rfl
theorem namedTileBoxes : Try.pinned.checked.prog.varsNamed 4 = Rows.tileBoxesRow.named := by kernel_rfl
theorem closedTileBoxes : joinedFacts Try.pinned.checked.prog 4 Try.f4 Rows.tileBoxesSpec Rows.tileBoxesRow = true := by
  unfold joinedFacts
  rw [laidT, mapsT, inPlaceTileBoxes, unfTileBoxes, recTileBoxes, namedTileBoxes, heardT, enterT, liftT, makeT, keysT]
  kernel_rfl

theorem overTileBoxes : Rows.tileBoxesRow.holds Try.pinned (OpenSpec.ofChange Rows.tileBoxesSpec) :=
  OpenClaim.holds_of_wide 4 Try.f4 rfl rfl rfl rfl rfl rfl rfl ⟨rfl, rfl, rfl, rfl, rfl⟩ rfl rfl rfl rfl rfl (by kernel_rfl) Try.func4 closedTileBoxes
    (of_decide_eq_true (by kernel_rfl)) (by unfold Func.isWrapper; first | (rw [if_pos (by decide +kernel)]; kernel_rfl) | (rw [if_neg (by decide +kernel)]; exact ⟨rfl, rfl⟩))
    (fun os started H enc _ => liftedTileBoxes os started H enc)

theorem provedTileBoxes : Rows.TileBoxesSaid := overTileBoxes
end Go.Proofs.Ytedckelfdkfkoaa
