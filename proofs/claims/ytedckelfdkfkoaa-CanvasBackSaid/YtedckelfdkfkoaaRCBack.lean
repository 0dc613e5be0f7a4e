/- Proved: the law CanvasBack returns true for every input, and each argument reads afterwards as it read before. No condition. -/
import Derived.Test.YtedckelfdkfkoaaRows
import Derived.Test.YtedckelfdkfkoaaZ
import Derived.Test.YtedckelfdkfkoaaBc
import Derived.Test.YtedckelfdkfkoaaQ
import Derived.Test.YtedckelfdkfkoaaQv
import Derived.WalkKit
import Derived.ProofKit
import Derived.OpenShut
import Derived.ShutString
import Derived.ChangeOld
import Derived.Below
namespace Go.Proofs.Ytedckelfdkfkoaa
open Go.ChangeShapes Go.WideShapes Go.ChangeAt Go.RowKit
open Go.ChangeMaps (open_string shut_string)

theorem ownCanvasBack : ownKnob Try.prog.godebug = none := by kernel_rfl
theorem laidOutCanvasBack : laidOutB Try.prog = true := by kernel_rfl

set_option maxRecDepth 100000 in
theorem liftedCanvasBack (os : Os) (started : os.Started) (H : Type) (enc : TypeId × Value → H) :
    ReturnsInHanded {} Try.checked os 13 .any (Rows.canvasBackSpec.pre6 enc Try.prog Try.f13 Rows.canvasBackRow.domain false) (Rows.canvasBackSpec.post enc Try.prog Try.f13 false true false false) := by
  refine returnsInHanded_of_change (C := Try.checked) ownCanvasBack started (by kernel_rfl) Try.func13
    (ChangeSpec.witness6 (enc := enc) (C := Try.checked) false ⟨#[], #[.agg #[.int .i64 0, .int .i64 0, .slice none 0 0], .slice none 0 0], []⟩ 8 (by kernel_rfl) (by kernel_rfl) (by kernel_rfl) (by kernel_rfl)) ?_
  intro W base args ds gs before hval0 hW hcnd _
  have hval : ∀ (j : Nat) t v, Try.f13.params[j]? = some t → args[j]? = some v → Value.okWide Try.prog W .any base t v := hval0
  have hW' := hW
  obtain ⟨p, q, hA0, hV, rfl, hfz, hnd⟩ := hW
  have hA : DataW.TrodAll enc Try.prog W 0 (fun _ => true) true Try.f13.params.toList args.toList ds p := hA0
  rw [Try.params13] at hA hval
  obtain ⟨v0, vs0, d0, ds0, p0, q0, hargs, rfl, rfl, h0, r0⟩ := trodAll_cons hA
  obtain ⟨v1, vs1, d1, ds1, p1, q1, rfl, rfl, rfl, h1, r1⟩ := trodAll_cons r0
  obtain ⟨rfl, rfl, rfl⟩ := trodAll_nil r1
  obtain rfl : args = #[v0, v1] := by cases args; simp_all
  obtain ⟨rfl, rfl⟩ := trodVars_none hV
  have k0 := h0
  have lt0 : ∀ x ∈ p0, x.block < W.heap.size := by obtain ⟨m, hm⟩ := k0; exact DataW.trod_lt m _ _ _ hm
  have bel0 := fun (W' : World) (bel : Below W.heap.size W W') => Below.trod (P := Try.prog) laidOutCanvasBack (t := 63) (by kernel_rfl) (of_decide_eq_true (by kernel_rfl)) k0 bel lt0
  have k1 := h1
  have lt1 : ∀ x ∈ p1, x.block < W.heap.size := by obtain ⟨m, hm⟩ := k1; exact DataW.trod_lt m _ _ _ hm
  have bel1 := fun (W' : World) (bel : Below W.heap.size W W') => Below.trod (P := Try.prog) laidOutCanvasBack (t := 64) (by kernel_rfl) (of_decide_eq_true (by kernel_rfl)) k1 bel lt1
  obtain ⟨x0, y0, a0, cap0, l0, ca0⟩ := open_canvas (hval 0 63 v0 rfl rfl) h0
  have cv0 := ca0.val
  subst cv0
  obtain ⟨a1, len1, cap1, rfl⟩ := okWide_slice Try.underlying64 (hval 1 64 v1 rfl rfl)
  obtain ⟨l1, e1, c1, w1, z1, m1⟩ := open_dots rfl h1
  subst e1
  clear hA0 hval0
  refine (cback_law x0 y0 a0 cap0 l0 a1 cap1 l1 _ ca0.row ca0.nil ca0.le ca0.max w1 z1 c1 m1).mono fun e W' ⟨he, bel⟩ => ?_
  subst he
  exact ⟨_, rfl, _, _, _, [], _, [], hW', trodAll_mk1 (shut_bool Try.underlying4 _), (trodAll_cons_mk (bel0 W' bel) (trodAll_cons_mk (bel1 W' bel) trodAll_mk0)), rfl, bel.frame _, fun h => by cases h⟩

theorem inPlaceCanvasBack : Try.pinned.checked.prog.inPlace 13 = Rows.canvasBackRow.inPlace := by kernel_rfl
theorem unfCanvasBack : Try.pinned.checked.prog.unfollowed 13 = Rows.canvasBackRow.unfollowed := by kernel_rfl
theorem recCanvasBack : Try.pinned.checked.prog.recurses 13 = Rows.canvasBackRow.recurses := by kernel_rfl
theorem namedCanvasBack : Try.pinned.checked.prog.varsNamed 13 = Rows.canvasBackRow.named := by kernel_rfl
theorem closedCanvasBack : joinedFacts Try.pinned.checked.prog 13 Try.f13 Rows.canvasBackSpec Rows.canvasBackRow = true := by
  unfold joinedFacts
  rw [laidT, mapsT, inPlaceCanvasBack, unfCanvasBack, recCanvasBack, namedCanvasBack, heardT, enterT, liftT, makeT, keysT]
  kernel_rfl

theorem overCanvasBack : Rows.canvasBackRow.holds Try.pinned (OpenSpec.ofChange Rows.canvasBackSpec) :=
  OpenClaim.holds_of_wide 13 Try.f13 rfl rfl rfl rfl rfl rfl rfl ⟨rfl, rfl, rfl, rfl, rfl⟩ rfl rfl rfl rfl rfl (by kernel_rfl) Try.func13 closedCanvasBack
    (of_decide_eq_true (by kernel_rfl)) (by unfold Func.isWrapper; first | (rw [if_pos (by decide +kernel)]; kernel_rfl) | (rw [if_neg (by decide +kernel)]; exact ⟨rfl, rfl⟩))
    (fun os started H enc _ => liftedCanvasBack os started H enc)

theorem provedCanvasBack : Rows.CanvasBackSaid := overCanvasBack
end Go.Proofs.Ytedckelfdkfkoaa
