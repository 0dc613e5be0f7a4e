/- Proved: the law TileBack returns true for every input, and each argument reads afterwards as it read before. No condition. -/
import Derived.Test.YtedckelfdkfkoaaRows
import Derived.Test.YtedckelfdkfkoaaZ
import Derived.Test.YtedckelfdkfkoaaBk
import Derived.Test.YtedckelfdkfkoaaQ
import Derived.WalkKit
import Derived.ProofKit
import Derived.OpenShut
import Derived.ShutString
import Derived.ChangeOld
import Derived.Below
namespace Go.Proofs.Ytedckelfdkfkoaa
open Go.ChangeShapes Go.WideShapes Go.ChangeAt Go.RowKit
open Go.ChangeMaps (open_string shut_string)

theorem ownTileBack : ownKnob Try.prog.godebug = none := by kernel_rfl
theorem laidOutTileBack : laidOutB Try.prog = true := by kernel_rfl

set_option maxRecDepth 100000 in
theorem liftedTileBack (os : Os) (started : os.Started) (H : Type) (enc : TypeId × Value → H) :
    ReturnsInHanded {} Try.checked os 6 .any (Rows.tileBackSpec.pre6 enc Try.prog Try.f6 Rows.tileBackRow.domain false) (Rows.tileBackSpec.post enc Try.prog Try.f6 false true false false) := by
  refine returnsInHanded_of_change (C := Try.checked) ownTileBack started (by kernel_rfl) Try.func6
    (ChangeSpec.witness6 (enc := enc) (C := Try.checked) false ⟨#[], #[.agg (Array.replicate 256 (.int .u8 0)), .int .i64 0], []⟩ 8 (by kernel_rfl) (by kernel_rfl) (by kernel_rfl) (by kernel_rfl)) ?_
  intro W base args ds gs before hval0 hW hcnd _
  have hval : ∀ (j : Nat) t v, Try.f6.params[j]? = some t → args[j]? = some v → Value.okWide Try.prog W .any base t v := hval0
  have hW' := hW
  obtain ⟨p, q, hA0, hV, rfl, hfz, hnd⟩ := hW
  have hA : DataW.TrodAll enc Try.prog W 0 (fun _ => true) true Try.f6.params.toList args.toList ds p := hA0
  rw [Try.params6] at hA hval
  obtain ⟨v0, vs0, d0, ds0, p0, q0, hargs, rfl, rfl, h0, r0⟩ := trodAll_cons hA
  obtain ⟨v1, vs1, d1, ds1, p1, q1, rfl, rfl, rfl, h1, r1⟩ := trodAll_cons r0
  obtain ⟨rfl, rfl, rfl⟩ := trodAll_nil r1
  obtain rfl : args = #[v0, v1] := by cases args; simp_all
  obtain ⟨rfl, rfl⟩ := trodVars_none hV
  have k0 := h0
  have lt0 : ∀ x ∈ p0, x.block < W.heap.size := by obtain ⟨m, hm⟩ := k0; exact DataW.trod_lt m _ _ _ hm
  have bel0 := fun (W' : World) (bel : Below W.heap.size W W') => Below.trod (P := Try.prog) laidOutTileBack (t := 25) (by kernel_rfl) (of_decide_eq_true (by kernel_rfl)) k0 bel lt0
  have k1 := h1
  have lt1 : ∀ x ∈ p1, x.block < W.heap.size := by obtain ⟨m, hm⟩ := k1; exact DataW.trod_lt m _ _ _ hm
  have bel1 := fun (W' : World) (bel : Below W.heap.size W W') => Below.trod (P := Try.prog) laidOutTileBack (t := 3) (by kernel_rfl) (of_decide_eq_true (by kernel_rfl)) k1 bel lt1
  obtain ⟨T0, L0, rfl, by0⟩ := open_tile (hval 0 25 v0 rfl rfl) h0
  obtain ⟨n1, rfl, rfl, rfl, w1⟩ := open_int Try.underlying3 (hval 1 3 v1 rfl rfl) h1
  clear hA0 hval0
  refine (back_law T0 n1 _ L0 by0).mono fun e W' ⟨he, bel⟩ => ?_
  subst he
  exact ⟨_, rfl, _, _, _, [], _, [], hW', trodAll_mk1 (shut_bool Try.underlying4 _), (trodAll_cons_mk (bel0 W' bel) (trodAll_cons_mk (bel1 W' bel) trodAll_mk0)), rfl, bel.frame _, fun h => by cases h⟩

theorem inPlaceTileBack : Try.pinned.checked.prog.inPlace 6 = Rows.tileBackRow.inPlace := by kernel_rfl
theorem unfTileBack : Try.pinned.checked.prog.unfollowed 6 = Rows.tileBackRow.unfollowed := by kernel_rfl
theorem recTileBack : Try.pinned.checked.prog.recurses 6 = Rows.tileBackRow.recurses := by kernel_rfl
theorem namedTileBack : Try.pinned.checked.prog.varsNamed 6 = Rows.tileBackRow.named := by kernel_rfl
theorem closedTileBack : joinedFacts Try.pinned.checked.prog 6 Try.f6 Rows.tileBackSpec Rows.tileBackRow = true := by
  unfold joinedFacts
  rw [laidT, mapsT, inPlaceTileBack, unfTileBack, recTileBack, namedTileBack, heardT, enterT, liftT, makeT, keysT]
  kernel_rfl

theorem overTileBack : Rows.tileBackRow.holds Try.pinned (OpenSpec.ofChange Rows.tileBackSpec) :=
  OpenClaim.holds_of_wide 6 Try.f6 rfl rfl rfl rfl rfl rfl rfl ⟨rfl, rfl, rfl, rfl, rfl⟩ rfl rfl rfl rfl rfl (by kernel_rfl) Try.func6 closedTileBack
    (of_decide_eq_true (by kernel_rfl)) (by unfold Func.isWrapper; first | (rw [if_pos (by decide +kernel)]; kernel_rfl) | (rw [if_neg (by decide +kernel)]; exact ⟨rfl, rfl⟩))
    (fun os started H enc _ => liftedTileBack os started H enc)

theorem provedTileBack : Rows.TileBackSaid := overTileBack
end Go.Proofs.Ytedckelfdkfkoaa
