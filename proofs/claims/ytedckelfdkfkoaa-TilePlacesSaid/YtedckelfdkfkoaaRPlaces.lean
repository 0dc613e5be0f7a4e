/- Proved: the law TilePlaces returns true for every input, and each argument reads afterwards as it read before. No condition. -/
import Derived.Test.YtedckelfdkfkoaaRows
import Derived.Test.YtedckelfdkfkoaaZ
import Derived.Test.YtedckelfdkfkoaaPl
import Derived.Test.YtedckelfdkfkoaaQ
import Derived.WalkKit
import Derived.ProofKit
import Derived.OpenShut
import Derived.ShutString
import Derived.ChangeOld
import Derived.Below
namespace Go.Proofs.Ytedckelfdkfkoaa
open Go.ChangeShapes Go.WideShapes Go.ChangeAt Go.RowKit
open Go.ChangeMaps (open_string shut_string)

theorem ownTilePlaces : ownKnob Try.prog.godebug = none := by kernel_rfl
theorem laidOutTilePlaces : laidOutB Try.prog = true := by kernel_rfl

set_option maxRecDepth 100000 in
theorem liftedTilePlaces (os : Os) (started : os.Started) (H : Type) (enc : TypeId × Value → H) :
    ReturnsInHanded {} Try.checked os 7 .any (Rows.tilePlacesSpec.pre6 enc Try.prog Try.f7 Rows.tilePlacesRow.domain false) (Rows.tilePlacesSpec.post enc Try.prog Try.f7 false true false false) := by
  refine returnsInHanded_of_change (C := Try.checked) ownTilePlaces started (by kernel_rfl) Try.func7
    (ChangeSpec.witness6 (enc := enc) (C := Try.checked) false ⟨#[], #[.agg (Array.replicate 256 (.int .u8 0)), .agg #[.int .u8 0, .int .u8 0, .int .u8 0, .int .u8 0], .slice none 0 0], []⟩ 8 (by kernel_rfl) (by kernel_rfl) (by kernel_rfl) (by kernel_rfl)) ?_
  intro W base args ds gs before hval0 hW hcnd _
  have hval : ∀ (j : Nat) t v, Try.f7.params[j]? = some t → args[j]? = some v → Value.okWide Try.prog W .any base t v := hval0
  have hW' := hW
  obtain ⟨p, q, hA0, hV, rfl, hfz, hnd⟩ := hW
  have hA : DataW.TrodAll enc Try.prog W 0 (fun _ => true) true Try.f7.params.toList args.toList ds p := hA0
  rw [Try.params7] at hA hval
  obtain ⟨v0, vs0, d0, ds0, p0, q0, hargs, rfl, rfl, h0, r0⟩ := trodAll_cons hA
  obtain ⟨v1, vs1, d1, ds1, p1, q1, rfl, rfl, rfl, h1, r1⟩ := trodAll_cons r0
  obtain ⟨v2, vs2, d2, ds2, p2, q2, rfl, rfl, rfl, h2, r2⟩ := trodAll_cons r1
  obtain ⟨rfl, rfl, rfl⟩ := trodAll_nil r2
  obtain rfl : args = #[v0, v1, v2] := by cases args; simp_all
  obtain ⟨rfl, rfl⟩ := trodVars_none hV
  have k0 := h0
  have lt0 : ∀ x ∈ p0, x.block < W.heap.size := by obtain ⟨m, hm⟩ := k0; exact DataW.trod_lt m _ _ _ hm
  have bel0 := fun (W' : World) (bel : Below W.heap.size W W') => Below.trod (P := Try.prog) laidOutTilePlaces (t := 25) (by kernel_rfl) (of_decide_eq_true (by kernel_rfl)) k0 bel lt0
  have k1 := h1
  have lt1 : ∀ x ∈ p1, x.block < W.heap.size := by obtain ⟨m, hm⟩ := k1; exact DataW.trod_lt m _ _ _ hm
  have bel1 := fun (W' : World) (bel : Below W.heap.size W W') => Below.trod (P := Try.prog) laidOutTilePlaces (t := 23) (by kernel_rfl) (of_decide_eq_true (by kernel_rfl)) k1 bel lt1
  have k2 := h2
  have lt2 : ∀ x ∈ p2, x.block < W.heap.size := by obtain ⟨m, hm⟩ := k2; exact DataW.trod_lt m _ _ _ hm
  have bel2 := fun (W' : World) (bel : Below W.heap.size W W') => Below.trod (P := Try.prog) laidOutTilePlaces (t := 45) (by kernel_rfl) (of_decide_eq_true (by kernel_rfl)) k2 bel lt2
  obtain ⟨T0, L0, rfl, by0⟩ := open_tile (hval 0 25 v0 rfl rfl) h0
  obtain ⟨c1, rfl, by1⟩ := open_col (hval 1 23 v1 rfl rfl) h1
  obtain ⟨a2, len2, cap2, rfl⟩ := okWide_slice Try.underlying45 (hval 2 45 v2 rfl rfl)
  obtain ⟨l2, e2, c2, w2, z2⟩ := open_pts rfl h2
  subst e2
  clear hA0 hval0
  refine (places_law T0 c1 a2 cap2 l2 _ L0 w2 c2 z2).mono fun e W' ⟨he, bel⟩ => ?_
  subst he
  exact ⟨_, rfl, _, _, _, [], _, [], hW', trodAll_mk1 (shut_bool Try.underlying4 _), (trodAll_cons_mk (bel0 W' bel) (trodAll_cons_mk (bel1 W' bel) (trodAll_cons_mk (bel2 W' bel) trodAll_mk0))), rfl, bel.frame _, fun h => by cases h⟩

theorem inPlaceTilePlaces : Try.pinned.checked.prog.inPlace 7 = Rows.tilePlacesRow.inPlace := by kernel_rfl
theorem unfTilePlaces : Try.pinned.checked.prog.unfollowed 7 = Rows.tilePlacesRow.unfollowed := by kernel_rfl
theorem recTilePlaces : Try.pinned.checked.prog.recurses 7 = Rows.tilePlacesRow.recurses := by kernel_rfl
theorem namedTilePlaces : Try.pinned.checked.prog.varsNamed 7 = Rows.tilePlacesRow.named := by kernel_rfl
theorem closedTilePlaces : joinedFacts Try.pinned.checked.prog 7 Try.f7 Rows.tilePlacesSpec Rows.tilePlacesRow = true := by
  unfold joinedFacts
  rw [laidT, mapsT, inPlaceTilePlaces, unfTilePlaces, recTilePlaces, namedTilePlaces, heardT, enterT, liftT, makeT, keysT]
  kernel_rfl

theorem overTilePlaces : Rows.tilePlacesRow.holds Try.pinned (OpenSpec.ofChange Rows.tilePlacesSpec) :=
  OpenClaim.holds_of_wide 7 Try.f7 rfl rfl rfl rfl rfl rfl rfl ⟨rfl, rfl, rfl, rfl, rfl⟩ rfl rfl rfl rfl rfl (by kernel_rfl) Try.func7 closedTilePlaces
    (of_decide_eq_true (by kernel_rfl)) (by unfold Func.isWrapper; first | (rw [if_pos (by decide +kernel)]; kernel_rfl) | (rw [if_neg (by decide +kernel)]; exact ⟨rfl, rfl⟩))
    (fun os started H enc _ => liftedTilePlaces os started H enc)

theorem provedTilePlaces : Rows.TilePlacesSaid := overTilePlaces
end Go.Proofs.Ytedckelfdkfkoaa
