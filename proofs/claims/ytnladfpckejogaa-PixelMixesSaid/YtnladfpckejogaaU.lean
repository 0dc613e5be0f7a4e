/- Walks: the text of a colour. -/
import Derived.Test.YtnladfpckejogaaT
import Derived.Laws.IdiomStrings
import Derived.Deep.AppendLies
namespace Go.Proofs.Ytnladfpckejogaa
open Go.RowKit Go.Shelf
attribute [local go_sem] Oper.semAt_some
attribute [local go_sem] round_fn round_depth wide_fn wide_depth

/-- the letters of a list of parts -/
def hexL (pre : List (Int × Int)) : List UInt8 := pre.flatMap fun p => [dB (p.2 / 16), dB (p.2 % 16)]
def byV (l : List UInt8) : List Value := l.map fun b => .int .u8 (b.toNat : Int)
theorem hexL_snoc (pre : List (Int × Int)) (x : Int × Int) : hexL (pre ++ [x]) = hexL pre ++ [dB (x.2 / 16), dB (x.2 % 16)] := by simp [hexL]
theorem hexL_all (r g b a : Int) : (⟨(hexL (partsL r g b a)).toArray⟩ : ByteArray) = textS r g b a := rfl
theorem byV_snoc (l l' : List UInt8) : byV (l ++ l') = byV l ++ byV l' := by simp [byV]

theorem run_hexAt {q : Int} (w : World) (h0 : 0 ≤ q) (h1 : q < 16) :
    (Instr.index 9 (.string ⟨#[48, 49, 50, 51, 52, 53, 54, 55, 56, 57, 97, 98, 99, 100, 101, 102]⟩) (.int .i64 q)).run Try.prog w = .ok (.int .u8 ((dB q).toNat : Int)) w := by
  rcases sixteen h0 h1 with rfl | rfl | rfl | rfl | rfl | rfl | rfl | rfl | rfl | rfl | rfl | rfl | rfl | rfl | rfl | rfl <;> kernel_rfl

set_option maxRecDepth 100000 in
theorem and_low {x : Int} (h0 : 0 ≤ x) (h1 : x ≤ 255) : bits .and .i64 x 15 = x % 16 := by
  have : ∀ n : Nat, n < 256 → bits .and .i64 (n : Int) 15 = (n : Int) % 16 := by decide
  have h := this x.toNat (by omega)
  rwa [Int.toNat_of_nonneg h0] at h

/-- a row of one's own behind a variable -/
def RowAt (W : World) (base : Nat) (T e : TypeId) (r : Nat) (n : Nat) (xs : List Value) : Prop := ∃ v, Has W r (.cells #[v] T (0, 0)) ∧ W.ownsRow base e 1 v n xs
theorem rowAt_own {β : Type} (B base : Nat) (T e : TypeId) (r : Nat) (n : β → Nat) (xs : β → List Value) : OwnFrom B (fun (s : β) W => RowAt W base T e r (n s) (xs s)) := by
  intro s X Y row ⟨v, hv, ho⟩ hg hrow
  refine ⟨v, has_own B r (fun _ => #[v]) T (0, 0) s X Y row hv hg hrow, ?_⟩
  refine ho.kept hg ?_
  rcases ho.2 with ⟨rfl, _⟩ | ⟨g, cap, cur, rfl, _, hgc, _⟩
  · exact .inl rfl
  · refine .inr fun e => ?_
    obtain ⟨_, o, ho, hc⟩ := hrow g e.symm
    rw [hgc] at ho; cases ho; cases hc
theorem Grew.row {rows : List Nat} {A B C : World} {row : Option Nat} (h : Grew rows A B) (hg : B.grownBy C row) (hr : ∀ k, row = some k → A.heap.size ≤ k) : Grew rows A C :=
  ⟨hg.os.trans h.os, hg.tape.trans h.tape, hg.output.trans h.output, Nat.le_trans h.size hg.size, fun k hk hn => (hg.block k (Nat.lt_of_lt_of_le hk h.size) (fun e => by have := hr k e.symm; omega)).trans (h.block k hk hn)⟩

set_option maxRecDepth 100000 in
set_option maxHeartbeats 1000000 in
theorem text_any (r g b a : Int) (w : World) (hr : By r) (hg : By g) (hb : By b) (ha : By a) :
    Calls Try.prog 12 #[.agg #[.int .u8 r, .int .u8 g, .int .u8 b, .int .u8 a]] w fun e w' => e = .returned (.string (textS r g b a)) ∧ Below w.heap.size w w' := by
  refine calls_of_wp_marks Try.func12 rfl ?_
  simp only [Try.ntmps12, List.size_toArray, List.length_cons, List.length_nil, Nat.reduceAdd, Nat.reduceSub, Array.replicate_succ, Array.replicate_zero, List.push_toArray, List.append_toArray, List.nil_append, List.cons_append]
  go_wp2_with (go_at_call 29; refine (parts_any _ _ _ _ _).mono ?_; rintro e w' ⟨rfl, rfl⟩)
  generalize hW0 : World.alloc _ _ = W0
  have hsz : W0.heap.size = w.heap.size + 3 := by rw [← hW0]; simp
  have b0 : Below w.heap.size w W0 := by rw [← hW0]; exact (((Below.refl _ _).alloc (by simp) _).alloc (by simp) _).alloc (by simp; omega) _
  have h1 : Has W0 (w.heap.size + 1) (.cells #[.slice none 0 0] 63 (0, 0)) := by rw [← hW0]; exact (Has.new' (by simp)).alloc _
  have h2 : Has W0 (w.heap.size + 1 + 1) (.cells #[.int .u8 r, .int .u8 g, .int .u8 b, .int .u8 a] 58 (0, 0)) := by rw [← hW0]; exact Has.new' (by simp)
  clear hW0
  refine wp_range rfl (enters_of Try.func42 (by kernel_rfl) rfl) (parts1_iter (w.heap.size + 1 + 1) w.heap.size r g b a W0 (by omega) (by omega) hr hg hb ha (h2.cell 0) (h2.cell 1) (h2.cell 2) (h2.cell 3)) (by omega) (Below.refl _ _) (fun _ => rfl)
    (fun pre W => Grew [w.heap.size + 1] W0 W ∧ RowAt W W0.heap.size 63 5 (w.heap.size + 1) (hexL pre).length (byV (hexL pre))) (OwnFrom.and own_grew (rowAt_own _ _ _ _ _ _ _)) ⟨Grew.refl _ _, _, h1, World.ownsRow_nil _ _ _ _⟩
    ?round ?done
  case round =>
    intro l pre x W _ hpre
    gi_wp2
    refine ⟨rfl, ?_⟩
    rintro W ⟨hG, v, hF, hO⟩
    have p2 := partsL_by hr hg hb ha hpre
    have s1 : ∀ w, (Instr.index 9 (.string ⟨#[48, 49, 50, 51, 52, 53, 54, 55, 56, 57, 97, 98, 99, 100, 101, 102]⟩) (.int .i64 (x.2 / 16))).run Try.prog w = .ok (.int .u8 ((dB (x.2 / 16)).toNat : Int)) w := fun w => run_hexAt w (by omega) (by omega)
    have s2 : ∀ w, (Instr.index 9 (.string ⟨#[48, 49, 50, 51, 52, 53, 54, 55, 56, 57, 97, 98, 99, 100, 101, 102]⟩) (.int .i64 (x.2 % 16))).run Try.prog w = .ok (.int .u8 ((dB (x.2 % 16)).toNat : Int)) w := fun w => run_hexAt w (by omega) (by omega)
    obtain ⟨q1, q2⟩ := p2
    have s3 := and_low q1 q2
    have c : W.cell? ⟨w.heap.size + 1, 0, none⟩ = some v := hF.cell 0
    have f := hF.free 0
    have lt1 := hF.lt
    clear q1 q2
    have HO := Lib.hid (And.intro hG (And.intro hF hO))
    clear hO hF hG
    gi_wp2
    refine wpIn_region_fresh 8 [(8, true), (9, true)]
      [(fun _ => v, none), (fun _ => .int .i64 x.2, none), (fun _ => .int .i64 (x.2 / 16), none), (fun _ => .int .u8 ((dB (x.2 / 16)).toNat : Int), none),
       (fun _ => .int .i64 x.2, none), (fun _ => .int .i64 (x.2 % 16), none), (fun _ => .int .u8 ((dB (x.2 % 16)).toNat : Int), none),
       (fun b => .slice (some ⟨b, 0, none⟩) 2 2, some (.cells #[.int .u8 ((dB (x.2 / 16)).toNat : Int), .int .u8 ((dB (x.2 % 16)).toNat : Int)] 5 (0, 0)))] (fun _ _ => True) (by kernel_rfl) (by kernel_rfl) (by kernel_rfl) rfl ?_
    intro z
    refine fresh_pure rfl rfl (fun w' hB => ?_) ?_
    · have c' : w'.cell? ⟨w.heap.size + 1, 0, none⟩ = some v := (HO.out.2.1.drew.below hB lt1).cell 0
      go_simp
    refine fresh_pure rfl rfl (fun w' hB => by go_simp) ?_
    refine fresh_pure rfl rfl (fun w' hB => by go_simp; try go_bits) ?_
    refine fresh_pure rfl rfl (fun w' hB => by go_simp) ?_
    refine fresh_pure rfl rfl (fun w' hB => by go_simp) ?_
    refine fresh_pure rfl rfl (fun w' hB => by go_simp; try go_bits) ?_
    refine fresh_pure rfl rfl (fun w' hB => by go_simp) ?_
    refine fresh_new rfl rfl (fun w' => by go_simp) ?_
    refine fresh_end fun V hB hA hD => ⟨trivial, ?_⟩
    go_simp
    obtain ⟨hz, hn⟩ := hA 7 _ _ rfl
    obtain ⟨hG, hF, hO⟩ := HO.out
    have hF2 := hF.drew.below hB hF.drew.lt
    have hO2 : V.ownsRow W0.heap.size 5 1 v (hexL pre).length (byV (hexL pre)) := hO.drew.kept (row := none) ⟨hB.os, hB.tape, hB.output, hB.size, fun k hk _ => hB.block k hk⟩ (by cases hh : v.ownBlock with | none => exact .inl rfl | some g => exact .inr (by simp))
    have hG2 : Grew [w.heap.size + 1] W0 V := hG.drew.of_below hB hG.size
    have hl : (hexL pre).length ≤ 6 := by
      rcases partsL_cases hpre with ⟨rfl, _⟩ | ⟨rfl, _⟩ | ⟨rfl, _⟩ | ⟨rfl, _⟩ <;> simp [hexL]
    have hVs := hG2.size
    refine sched_act rfl rfl ?_
    refine wp_append_own V (.tmp 11) (.tmp 18) 63 rfl W0.heap.size 5 _ (.int .u8 0) 1 1 (by kernel_rfl) rfl rfl rfl rfl rfl (by omega) v _ _ rfl hO2 ⟨z 7, 0, none⟩ 2 2 [.int .u8 ((dB (x.2 / 16)).toNat : Int), .int .u8 ((dB (x.2 % 16)).toNat : Int)] rfl rfl ?news ?one (by unfold maxLen; omega) (by omega) hVs ?_
    case news =>
      intro j u hj
      match j, hj with
      | 0, hj => cases hj; exact hn.cell 0
      | 1, hj => cases hj; exact hn.cell 1
      | j + 2, hj => simp at hj
    case one =>
      intro u hu
      simp only [List.mem_cons, List.not_mem_nil, or_false] at hu
      rcases hu with rfl | rfl <;> rfl
    intro v' w' hO3 hg _
    obtain ⟨g', cap', rfl, _, _⟩ := hO3.form (by omega)
    have hown := hO2.lt
    have hF3 := hF2.kept hg (fun e => by have := (hown _ e.symm).1; omega)
    have hG3 := hG2.row hg (fun k e => (hown k e).1)
    have c : w'.cell? ⟨w.heap.size + 1, 0, none⟩ = some v := hF3.cell 0
    have f := hF3.free 0
    have kp : KeepsFrom W0.heap.size W w' := by
      refine ⟨Nat.le_trans hB.size hg.size, fun k o _ hk ho => ?_⟩
      have hkV : V.heap[k]? = some o := (hB.block k (Array.getElem?_eq_some_iff.1 hk).1).trans hk
      refine (hg.block k (Array.getElem?_eq_some_iff.1 hkV).1 (fun e => ?_)).trans hkV
      rcases hO2.2 with ⟨rfl, _⟩ | ⟨g1, cap1, cur, rfl, _, hgc, _⟩
      · cases e
      · cases e
        rw [hgc] at hkV; cases hkV; cases ho
    have fin : ∀ Y, w'.setCell ⟨w.heap.size + 1, 0, none⟩ (.slice (some ⟨g', 0, none⟩) ((hexL pre).length + 2) cap') = Y → KeepsFrom W0.heap.size W Y ∧ Below w.heap.size W Y ∧ Grew [w.heap.size + 1] W0 Y ∧ RowAt Y W0.heap.size 63 5 (w.heap.size + 1) (hexL (pre ++ [x])).length (byV (hexL (pre ++ [x]))) := by
      rintro Y rfl
      have hb : Below w.heap.size W w' := ⟨hg.os.trans hB.os, hg.tape.trans hB.tape, hg.output.trans hB.output, kp.size, fun k hk => (hg.block k (by have := hB.size; have : W.drew.heap.size = W.heap.size := rfl; omega) (fun e => by have := (hown k e.symm).1; omega)).trans (hB.block k (by have : W.drew.heap.size = W.heap.size := rfl; omega))⟩
      refine ⟨kp.trans ((KeepsOthers.setCell _ _ _).from _), hb.setCell (by simp) _, hG3.setCell _ (.inl (by simp)), _, hF3.set 0 _, ?_⟩
      rw [hexL_snoc, byV_snoc, List.length_append]
      exact hO3.kept (grownBy_setCell' _ _ _) (.inr (by simp [Value.ownBlock]; omega))
    have Hf := Lib.hid fin
    clear fin hO3 hg hF2 hO2 hG2 hF3 hG3 hO hF hG HO hown kp hz hn hA hD
    refine ⟨trivial, ?_⟩
    go_simp
    refine sched_act rfl rfl ?_
    go_simp
    refine sched_end ?_
    go_wp2
    exact Hf.out _ rfl
  case done =>
    intro D W hD ⟨hG, v, hF, hO⟩ hK
    obtain ⟨g', cap', rfl, _, _⟩ := hO.form (by simp [hexL, partsL])
    have hlen : (byV (hexL (partsL r g b a))).length = 8 := by simp [byV, hexL, partsL]
    have hC := run_convert_bytes_back (P := Try.prog) W 63 9 5 ⟨g', 0, none⟩ cap' (hexL (partsL r g b a)) (by kernel_rfl) (by kernel_rfl) (by kernel_rfl) (fun j hj => hO.cells (g := g') rfl j _ (by simp [byV, hj]))
    rw [hexL_all] at hC
    have c : W.cell? ⟨w.heap.size + 1, 0, none⟩ = some (.slice (some ⟨g', 0, none⟩) (hexL (partsL r g b a)).length cap') := hF.cell 0
    have bW := b0.trans (hG.below (by omega) (by simp))
    have Hsz := Lib.hid hsz; clear hsz hlen
    go_wp2
    exact leaves_mark hK (leaves_end (results_tmp rfl _ _ _) ⟨rfl, bW.trans (belowK_b (w := w) (Nat.le_refl _) _ _ _ _ (by have := Hsz.out; omega) hK rfl rfl)⟩)
end Go.Proofs.Ytnladfpckejogaa
