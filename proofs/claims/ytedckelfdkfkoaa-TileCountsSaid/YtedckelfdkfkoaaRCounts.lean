/- Proved: the law TileCounts returns true for every input, and each argument reads afterwards as it read before. No condition. -/
import Derived.Test.YtedckelfdkfkoaaRows
import Derived.Test.YtedckelfdkfkoaaZ
import Derived.Test.YtedckelfdkfkoaaCt
import Derived.Test.YtedckelfdkfkoaaQ
import Derived.Test.YtedckelfdkfkoaaQc
import Derived.WalkKit
import Derived.ProofKit
import Derived.OpenShut
import Derived.ShutString
import Derived.ChangeOld
import Derived.Below
namespace Go.Proofs.Ytedckelfdkfkoaa
open Go.ChangeShapes Go.WideShapes Go.ChangeAt Go.RowKit
open Go.ChangeMaps (open_string shut_string)

theorem ownTileCounts : ownKnob Try.prog.godebug = none := by kernel_rfl
theorem laidOutTileCounts : laidOutB Try.prog = true := by kernel_rfl

set_option maxRecDepth 100000 in
theorem liftedTileCounts (os : Os) (started : os.Started) (H : Type) (enc : TypeId × Value → H) :
    ReturnsInHanded {} Try.checked os 3 .any (Rows.tileCountsSpec.pre6 enc Try.prog Try.f3 Rows.tileCountsRow.domain false) (Rows.tileCountsSpec.post enc Try.prog Try.f3 false true false false) := by
  refine returnsInHanded_of_change (C := Try.checked) ownTileCounts started (by kernel_rfl) Try.func3
    (ChangeSpec.witness6 (enc := enc) (C := Try.checked) false ⟨#[], #[.agg (Array.replicate 256 (.int .u8 0)), .agg (Array.replicate 256 (.int .u8 0)), .slice none 0 0], []⟩ 8 (by kernel_rfl) (by kernel_rfl) (by kernel_rfl) (by kernel_rfl)) ?_
  intro W base args ds gs before hval0 hW hcnd _
  have hval : ∀ (j : Nat) t v, Try.f3.params[j]? = some t → args[j]? = some v → Value.okWide Try.prog W .any base t v := hval0
  have hW' := hW
  obtain ⟨p, q, hA0, hV, rfl, hfz, hnd⟩ := hW
  have hA : DataW.TrodAll enc Try.prog W 0 (fun _ => true) true Try.f3.params.toList args.toList ds p := hA0
  rw [Try.params3] at hA hval
  obtain ⟨v0, vs0, d0, ds0, p0, q0, hargs, rfl, rfl, h0, r0⟩ := trodAll_cons hA
  obtain ⟨v1, vs1, d1, ds1, p1, q1, rfl, rfl, rfl, h1, r1⟩ := trodAll_cons r0
  obtain ⟨v2, vs2, d2, ds2, p2, q2, rfl, rfl, rfl, h2, r2⟩ := trodAll_cons r1
  obtain ⟨rfl, rfl, rfl⟩ := trodAll_nil r2
  obtain rfl : args = #[v0, v1, v2] := by cases args; simp_all
  obtain ⟨rfl, rfl⟩ := trodVars_none hV
  have k0 := h0
  have lt0 : ∀ x ∈ p0, x.block < W.heap.size := by obtain ⟨m, hm⟩ := k0; exact DataW.trod_lt m _ _ _ hm
  have bel0 := fun (W' : World) (bel : Below W.heap.size W W') => Below.trod (P := Try.prog) laidOutTileCounts (t := 25) (by kernel_rfl) (of_decide_eq_true (by kernel_rfl)) k0 bel lt0
  have k1 := h1
  have lt1 : ∀ x ∈ p1, x.block < W.heap.size := by obtain ⟨m, hm⟩ := k1; exact DataW.trod_lt m _ _ _ hm
  have bel1 := fun (W' : World) (bel : Below W.heap.size W W') => Below.trod (P := Try.prog) laidOutTileCounts (t := 25) (by kernel_rfl) (of_decide_eq_true (by kernel_rfl)) k1 bel lt1
  have k2 := h2
  have lt2 : ∀ x ∈ p2, x.block < W.heap.size := by obtain ⟨m, hm⟩ := k2; exact DataW.trod_lt m _ _ _ hm
  have bel2 := fun (W' : World) (bel : Below W.heap.size W W') => Below.trod (P := Try.prog) laidOutTileCounts (t := 26) (by kernel_rfl) (of_decide_eq_true (by kernel_rfl)) k2 bel lt2
  obtain ⟨T0, L0, rfl, by0⟩ := open_tile (hval 0 25 v0 rfl rfl) h0
  obtain ⟨T1, L1, rfl, by1⟩ := open_tile (hval 1 25 v1 rfl rfl) h1
  obtain ⟨a2, len2, cap2, rfl⟩ := okWide_slice Try.underlying26 (hval 2 26 v2 rfl rfl)
  obtain ⟨l2, e2, c2, w2, z2⟩ := open_cols rfl h2
  subst e2
  clear hA0 hval0
  refine (counts_law T0 T1 a2 cap2 l2 _ L0 L1 by0 by1 w2 c2 z2).mono fun e W' ⟨he, bel⟩ => ?_
  subst he
  exact ⟨_, rfl, _, _, _, [], _, [], hW', trodAll_mk1 (shut_bool Try.underlying4 _), (trodAll_cons_mk (bel0 W' bel) (trodAll_cons_mk (bel1 W' bel) (trodAll_cons_mk (bel2 W' bel) trodAll_mk0))), rfl, bel.frame _, fun h => by cases h⟩

theorem inPlaceTileCounts : Try.pinned.checked.prog.inPlace 3 = Rows.tileCountsRow.inPlace := by kernel_rfl
theorem unfTileCounts : Try.pinned.checked.prog.unfollowed 3 = Rows.tileCountsRow.unfollowed := by kernel_rfl
theorem recTileCounts : Try.pinned.checked.prog.recurses 3 = Rows.tileCountsRow.recurses := by kernel_rfl
theorem namedTileCounts : Try.pinned.checked.prog.varsNamed 3 = Rows.tileCountsRow.named := by kernel_rfl
theorem closedTileCounts : joinedFacts Try.pinned.checked.prog 3 Try.f3 Rows.tileCountsSpec Rows.tileCountsRow = true := by
  unfold joinedFacts
  rw [laidT, mapsT, inPlaceTileCounts, unfTileCounts, recTileCounts, namedTileCounts, heardT, enterT, liftT, makeT, keysT]
  kernel_rfl

theorem overTileCounts : Rows.tileCountsRow.holds Try.pinned (OpenSpec.ofChange Rows.tileCountsSpec) :=
  OpenClaim.holds_of_wide 3 Try.f3 rfl rfl rfl rfl rfl rfl rfl ⟨rfl, rfl, rfl, rfl, rfl⟩ rfl rfl rfl rfl rfl (by kernel_rfl) Try.func3 closedTileCounts
    (of_decide_eq_true (by kernel_rfl)) (by unfold Func.isWrapper; first | (rw [if_pos (by decide +kernel)]; kernel_rfl) | (rw [if_neg (by decide +kernel)]; exact ⟨rfl, rfl⟩))
    (fun os started H enc _ => liftedTileCounts os started H enc)

theorem provedTileCounts : Rows.TileCountsSaid := overTileCounts
end Go.Proofs.Ytedckelfdkfkoaa
