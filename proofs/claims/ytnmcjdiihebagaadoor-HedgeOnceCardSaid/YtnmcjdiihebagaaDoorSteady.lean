/-
  A region that draws its order, whose calls make memory: one walk in the order of the text, in a class of worlds chosen by the prover.
-/
import Derived.Test.YtnmcjdiihebagaaDoorKit
import Derived.Deep.Quiet
import Derived.BigQuiet
namespace Go.Proofs.YtnmcjdiihebagaaDoor
open Go.RowKit

section
variable {P : Program} {C : World → Prop}
theorem wp_region_in {id : Nat} {Q : Exit → Act → World → Prop} {a : Act} {w : World} {l : List Oper} (C : World → Prop) (hC : C w.drew) (hm : P.follows .mixedOrders = true) (hB : Region.lexB .any l.toArray = true)
    (h : wpQuiet P l.toArray C (fun a' => ∀ w', C w' → Q .normal a' w') l a) : (Code.region id l.toArray true).wp P Q a w :=
  wp_region_quiet (C := C) hm hB hC (by simpa using h)
theorem in_val {o : Oper} {a : Act} {K : Act → Prop} (v : Value) (h : ∀ w, C w → (execOp a.eval o).run P w = .ok (.value v) w) (hk : K (a.put o.dst v)) : o.quiet P a C K :=
  ⟨v, fun w hw => by unfold Oper.quietAt; rw [h w hw]; exact ⟨rfl, rfl⟩, hk⟩
theorem in_q {o : Oper} {a : Act} {K : Act → Prop} (v : Value) (h : ∀ w, C w → o.quietAt P a C w v) (hk : K (a.put o.dst v)) : o.quiet P a C K := ⟨v, h, hk⟩
theorem in_call {o : Oper} {a : Act} {K : Act → Prop} (f : FuncId) (args : Array Value) (v : Value) (h : ∀ w, C w → (execOp a.eval o).run P w = .ok (.enter f args) w)
    (hc : ∀ w, C w → Calls P f args w fun e w' => e = .returned v ∧ C w') (hk : K (a.put o.dst v)) : o.quiet P a C K :=
  ⟨v, fun w hw => by unfold Oper.quietAt; rw [h w hw]; exact ⟨rfl, hc w hw⟩, hk⟩
end

theorem run_max2 (t1 t2 ty : TypeId) (k : IntKind) (x y : Int) (w : World) (P : Program) : (Builtin.max_ #[t1, t2] ty #[.int k x, .int k y]).run P w = .ok (.int k (max x y)) w := by
  have h : (if y > x then y else x) = max x y := by split <;> omega
  show (Builtin.max2 (.int k x) (.int k y)).run P w = _
  unfold Builtin.max2
  rw [← h]
  rfl
theorem run_min2 (t1 t2 ty : TypeId) (k : IntKind) (x y : Int) (w : World) (P : Program) : (Builtin.min_ #[t1, t2] ty #[.int k x, .int k y]).run P w = .ok (.int k (min x y)) w := by
  have h : (if y < x then y else x) = min x y := by split <;> omega
  show (Builtin.min2 (.int k x) (.int k y)).run P w = _
  unfold Builtin.min2
  rw [← h]
  rfl

section
variable {P : Program} {w : World}
theorem wp_max {o : Oper} {a : Act} {K : Act → World → Prop} {Q : Exit → Act → World → Prop} (s x : Operand) (t1 t2 : TypeId)
    (ho : o.op = .call { callee := .builtin .max, args := #[s, x], argTypes := #[t1, t2] }) (k : IntKind) (m n : Int) (hs : a.eval s = .int k m) (hx : a.eval x = .int k n)
    (h : K (a.put o.dst (.int k (max m n))) w) : o.wp P a w K Q := by
  unfold Oper.wp execOp
  simp only [ho, resolve, invoke, builtin, Sem.run_bind, Sem.run_pure, Result.andThen_ok, List.map_toArray, List.map_cons, List.map_nil, hs, hx, run_max2]
  exact h
theorem wpList_max {ops : Array Oper} {rest : List Oper} {o : Oper} {a : Act} {Q : Exit → Act → World → Prop} (hgd : o.guard = none) (s x : Operand) (t1 t2 : TypeId)
    (ho : o.op = .call { callee := .builtin .max, args := #[s, x], argTypes := #[t1, t2] }) (k : IntKind) (m n : Int) (hs : a.eval s = .int k m) (hx : a.eval x = .int k n)
    (h : wpList P ops Q rest (a.put o.dst (.int k (max m n))) w) : wpList P ops Q (o :: rest) a w :=
  wpList_plain hgd fun _ hK => wp_max s x t1 t2 ho k m n hs hx (hK _ _ h)
theorem wp_min {o : Oper} {a : Act} {K : Act → World → Prop} {Q : Exit → Act → World → Prop} (s x : Operand) (t1 t2 : TypeId)
    (ho : o.op = .call { callee := .builtin .min, args := #[s, x], argTypes := #[t1, t2] }) (k : IntKind) (m n : Int) (hs : a.eval s = .int k m) (hx : a.eval x = .int k n)
    (h : K (a.put o.dst (.int k (min m n))) w) : o.wp P a w K Q := by
  unfold Oper.wp execOp
  simp only [ho, resolve, invoke, builtin, Sem.run_bind, Sem.run_pure, Result.andThen_ok, List.map_toArray, List.map_cons, List.map_nil, hs, hx, run_min2]
  exact h
theorem wpList_min {ops : Array Oper} {rest : List Oper} {o : Oper} {a : Act} {Q : Exit → Act → World → Prop} (hgd : o.guard = none) (s x : Operand) (t1 t2 : TypeId)
    (ho : o.op = .call { callee := .builtin .min, args := #[s, x], argTypes := #[t1, t2] }) (k : IntKind) (m n : Int) (hs : a.eval s = .int k m) (hx : a.eval x = .int k n)
    (h : wpList P ops Q rest (a.put o.dst (.int k (min m n))) w) : wpList P ops Q (o :: rest) a w :=
  wpList_plain hgd fun _ hK => wp_min s x t1 t2 ho k m n hs hx (hK _ _ h)
theorem in_min {C : World → Prop} {o : Oper} {a : Act} {K : Act → Prop} (s x : Operand) (t1 t2 : TypeId)
    (ho : o.op = .call { callee := .builtin .min, args := #[s, x], argTypes := #[t1, t2] }) (k : IntKind) (m n : Int) (hs : a.eval s = .int k m) (hx : a.eval x = .int k n)
    (hk : K (a.put o.dst (.int k (min m n)))) : o.quiet P a C K := by
  refine in_val (.int k (min m n)) (fun w _ => ?_) hk
  unfold execOp
  simp only [ho, resolve, invoke, builtin, Sem.run_bind, Sem.run_pure, Result.andThen_ok, List.map_toArray, List.map_cons, List.map_nil, hs, hx, run_min2]
end
end Go.Proofs.YtnmcjdiihebagaaDoor
