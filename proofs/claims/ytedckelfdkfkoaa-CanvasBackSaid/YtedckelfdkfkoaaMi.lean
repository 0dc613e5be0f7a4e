/- The builtins min and max in a plain walk. -/
import Derived.Test.YtedckelfdkfkoaaH
namespace Go.Proofs.Ytedckelfdkfkoaa
open Go.RowKit Go.Shelf

theorem wp_min2 {o : Oper} {a : Act} {w : World} {K : Act → World → Prop} {Q : Exit → Act → World → Prop} (x y : Operand) (ho : o.op = .call { callee := .builtin .min, args := #[x, y], argTypes := #[3, 3] }) (m n : Int)
    (hx : a.eval x = .int .i64 m) (hy : a.eval y = .int .i64 n) (h : K (a.put o.dst (.int .i64 (min m n))) w) : o.wp Try.prog a w K Q := by
  obtain ⟨dst, op, t, pos, af, g⟩ := o
  simp only at ho; subst ho
  unfold Oper.wp
  have e := exec_min a.eval x y dst t pos af g w (by rw [hx]; rfl) (by rw [hy]; rfl)
  rw [e, hx, hy]
  exact h
theorem wpList_min {ops : Array Oper} {rest : List Oper} {o : Oper} {a : Act} {w : World} {Q : Exit → Act → World → Prop} (hgd : o.guard = none) (x y : Operand) (ho : o.op = .call { callee := .builtin .min, args := #[x, y], argTypes := #[3, 3] }) (m n : Int)
    (hx : a.eval x = .int .i64 m) (hy : a.eval y = .int .i64 n) (h : wpList Try.prog ops Q rest (a.put o.dst (.int .i64 (min m n))) w) : wpList Try.prog ops Q (o :: rest) a w :=
  wpList_plain hgd fun _ hK => wp_min2 x y ho m n hx hy (hK _ _ h)
theorem wp_max2 {o : Oper} {a : Act} {w : World} {K : Act → World → Prop} {Q : Exit → Act → World → Prop} (x y : Operand) (ho : o.op = .call { callee := .builtin .max, args := #[x, y], argTypes := #[3, 3] }) (m n : Int)
    (hx : a.eval x = .int .i64 m) (hy : a.eval y = .int .i64 n) (h : K (a.put o.dst (.int .i64 (max m n))) w) : o.wp Try.prog a w K Q := by
  obtain ⟨dst, op, t, pos, af, g⟩ := o
  simp only at ho; subst ho
  unfold Oper.wp
  have e := exec_max a.eval x y dst t pos af g w (by rw [hx]; rfl) (by rw [hy]; rfl)
  rw [e, hx, hy]
  exact h
theorem wpList_max {ops : Array Oper} {rest : List Oper} {o : Oper} {a : Act} {w : World} {Q : Exit → Act → World → Prop} (hgd : o.guard = none) (x y : Operand) (ho : o.op = .call { callee := .builtin .max, args := #[x, y], argTypes := #[3, 3] }) (m n : Int)
    (hx : a.eval x = .int .i64 m) (hy : a.eval y = .int .i64 n) (h : wpList Try.prog ops Q rest (a.put o.dst (.int .i64 (max m n))) w) : wpList Try.prog ops Q (o :: rest) a w :=
  wpList_plain hgd fun _ hK => wp_max2 x y ho m n hx hy (hK _ _ h)
end Go.Proofs.Ytedckelfdkfkoaa
