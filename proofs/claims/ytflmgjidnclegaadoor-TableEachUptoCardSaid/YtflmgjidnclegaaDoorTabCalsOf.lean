/-
  How the calls among the arguments are opened, and what the bound of the second form gives.
-/
import Derived.Test.YtflmgjidnclegaaDoorTabLaid
import Derived.Test.YtflmgjidnclegaaDoorTabCals
namespace Go.Proofs.YtflmgjidnclegaaDoor
open Go.ChangeShapes Go.WideShapes Go.ChangeAt Go.RowKit Go.Deep Go.Joins
open Tab (Cal CalsAt Small hsz)

theorem list_of_each {α : Type} (P : Nat → α → Prop) : ∀ n : Nat, (∀ i, i < n → ∃ c, P i c) → ∃ l : List α, l.length = n ∧ ∀ i c, l[i]? = some c → P i c
  | 0, _ => ⟨[], rfl, fun i c h => by simp at h⟩
  | n + 1, h => by
    obtain ⟨l, hl, hp⟩ := list_of_each P n (fun i hi => h i (by omega))
    obtain ⟨c, hc⟩ := h n (by omega)
    refine ⟨l ++ [c], by simp [hl], fun i x hx => ?_⟩
    by_cases hi : i < n
    · rw [List.getElem?_append_left (by omega)] at hx
      exact hp i x hx
    · have hlt := (List.getElem?_eq_some_iff.1 hx).1
      rw [List.length_append, List.length_singleton] at hlt
      obtain rfl : i = n := by omega
      rw [List.getElem?_append_right (by omega), hl, Nat.sub_self] at hx
      obtain rfl : c = x := by simpa using hx
      exact hc
theorem bulk_part {H : Type} {d : DataW H} {l : List (DataW H)} (h : d ∈ l) : Rows.uptoBulk d ≤ Rows.uptoBulkAll l := by
  induction l with
  | nil => cases h
  | cons x r ih =>
    simp only [Rows.uptoBulkAll]
    cases List.mem_cons.1 h with
    | inl e => subst e; omega
    | inr e => have := ih e; omega
theorem bulk_one {H : Type} (d : DataW H) : 1 ≤ Rows.uptoBulk d := by
  cases d with
  | lit l => cases l <;> simp [Rows.uptoBulk]
  | nil => simp [Rows.uptoBulk]
  | ptr d => simp [Rows.uptoBulk]
  | slice elems spare => simp [Rows.uptoBulk]
  | agg parts => simp [Rows.uptoBulk]
  | iface t d => simp [Rows.uptoBulk]
  | map entries => simp [Rows.uptoBulk]
  | held h => simp [Rows.uptoBulk]
theorem bulk_len {H : Type} (l : List (DataW H)) : l.length ≤ Rows.uptoBulkAll l := by
  induction l with
  | nil => simp [Rows.uptoBulkAll]
  | cons x r ih => have := bulk_one x; simp only [Rows.uptoBulkAll, List.length_cons]; omega
theorem bulk_of {H : Type} {l : List (DataW H)} (hk : Rows.uptoSmall H l = true) : Rows.uptoBulkAll l ≤ 1048576 := of_decide_eq_true hk
theorem co3 : Tryd.prog.cellsOf 3 = 1 := by kernel_rfl
theorem co23 : Tryd.prog.cellsOf 23 = 3 := by kernel_rfl
theorem co9 : Tryd.prog.cellsOf 9 = 1 := by kernel_rfl
theorem co4 : Tryd.prog.cellsOf 4 = 1 := by kernel_rfl
theorem co39 : Tryd.prog.cellsOf 39 = 5 := by kernel_rfl
section
variable {H : Type} {enc : TypeId × Value → H}
set_option maxRecDepth 100000 in
theorem cals_of {W : World} {v : Value} {base : Nat} {d : DataW H} {p : List MemPlace} (hv : Value.okWide Tryd.prog W .any base 30 v)
    (h : DataW.Trod enc Tryd.prog W 0 (fun _ => true) true 30 v d p) :
    ∃ (A : Option Addr) (l : List Cal) (cap : Nat), v = .slice A l.length cap ∧ CalsAt W A l ∧ (Rows.uptoBulk d ≤ 1048576 → Small l ∧ l.length ≤ 1048576) := by
  obtain ⟨a0, len, cap, rfl⟩ := okWide_slice Tryd.underlying30 hv
  obtain ⟨fuel, hf⟩ := h
  rcases open_slice Tryd.underlying30 hf with ⟨hcs, _⟩ | ⟨a, len', cap', m, n, D, Pl, hcs, _, hl, hm, hmm, hx, hi⟩
  · simp only [Value.cells] at hcs
    injection hcs with hcs
    injection hcs with e1 e2 e3
    subst e1 e2 e3
    exact ⟨none, [], 0, rfl, fun i c h => by simp at h, fun _ => ⟨fun c h => by simp at h, by simp⟩⟩
  · simp only [Value.cells] at hcs
    injection hcs with hcs
    injection hcs with e1 e2 e3
    subst e1 e2 e3
    unfold maxLen at hm
    simp only [if_true] at hmm
    rw [co39] at hi
    have each : ∀ i, i < len → ∃ c : Cal, (∃ b off, (some a : Option Addr) = some ⟨b, off, none⟩ ∧ b < W.heap.size ∧
        W.cell? ⟨b, off + i * 5, none⟩ = some (.int .i64 c.kind) ∧ W.cell? ⟨b, off + i * 5 + 1, none⟩ = some (.int .i64 c.num) ∧ W.cell? ⟨b, off + i * 5 + 2, none⟩ = some (.string c.name) ∧
        W.cell? ⟨b, off + i * 5 + 3, none⟩ = some (.string c.value) ∧ W.cell? ⟨b, off + i * 5 + 4, none⟩ = some (.bool c.never)) ∧ hsz c.hd ≤ Rows.uptoBulk (D i) + 32 := by
      intro i hil
      obtain ⟨b, off, hA⟩ : ∃ b off, a = ⟨b, off, none⟩ := by
        obtain ⟨c0, hc0, _⟩ := hi 0 (by omega)
        obtain ⟨_, hcl, hat⟩ := World.cells?_some hc0
        have h0 := hat 0 (by omega)
        rw [List.getElem?_eq_getElem (by omega)] at h0
        obtain ⟨b, off, spot⟩ := a
        have hspot : spot = none := by simpa [Addr.add] using World.cell?_spot h0
        exact ⟨b, off, by rw [hspot]⟩
      obtain ⟨cs', hc, ht⟩ := hi i (by omega)
      obtain ⟨_, hcl, hat⟩ := World.cells?_some hc
      obtain ⟨ys, n', _, hy, _, hyl, hg⟩ := DataW.trod_struct Tryd.underlying39 ht
      match cs', hcl, ys, hyl with
      | [x0, x1, x2, x3, x4], _, [y0, y1, y2], _ =>
        have g0 : DataW.trod enc Tryd.prog W 0 (fun _ => true) true n' 3 (List.take (Tryd.prog.cellsOf 3) (List.drop 0 [x0, x1, x2, x3, x4])) = some y0 := hg 0 _ rfl
        rw [co3] at g0
        have g0 : DataW.trod enc Tryd.prog W 0 (fun _ => true) true n' 3 [x0] = some y0 := g0
        have g1 : DataW.trod enc Tryd.prog W 0 (fun _ => true) true n' 3 (List.take (Tryd.prog.cellsOf 3) (List.drop 1 [x0, x1, x2, x3, x4])) = some y1 := hg 1 _ rfl
        rw [co3] at g1
        have g1 : DataW.trod enc Tryd.prog W 0 (fun _ => true) true n' 3 [x1] = some y1 := g1
        have g2 : DataW.trod enc Tryd.prog W 0 (fun _ => true) true n' 23 (List.take (Tryd.prog.cellsOf 23) (List.drop 2 [x0, x1, x2, x3, x4])) = some y2 := hg 2 _ rfl
        rw [co23] at g2
        have g2 : DataW.trod enc Tryd.prog W 0 (fun _ => true) true n' 23 [x2, x3, x4] = some y2 := g2
        obtain ⟨zs, n2, _, hz, _, hzl, hh⟩ := DataW.trod_struct Tryd.underlying23 g2
        match zs, hzl with
        | [z0, z1, z2], _ =>
          have q0 : DataW.trod enc Tryd.prog W 0 (fun _ => true) true n2 9 (List.take (Tryd.prog.cellsOf 9) (List.drop 0 [x2, x3, x4])) = some z0 := hh 0 _ rfl
          rw [co9] at q0
          have q0 : DataW.trod enc Tryd.prog W 0 (fun _ => true) true n2 9 [x2] = some z0 := q0
          have q1 : DataW.trod enc Tryd.prog W 0 (fun _ => true) true n2 9 (List.take (Tryd.prog.cellsOf 9) (List.drop 1 [x2, x3, x4])) = some z1 := hh 1 _ rfl
          rw [co9] at q1
          have q1 : DataW.trod enc Tryd.prog W 0 (fun _ => true) true n2 9 [x3] = some z1 := q1
          have q2 : DataW.trod enc Tryd.prog W 0 (fun _ => true) true n2 4 (List.take (Tryd.prog.cellsOf 4) (List.drop 2 [x2, x3, x4])) = some z2 := hh 2 _ rfl
          rw [co4] at q2
          have q2 : DataW.trod enc Tryd.prog W 0 (fun _ => true) true n2 4 [x4] = some z2 := q2
          obtain ⟨k0, e0, _, _⟩ := DataW.trod_int Tryd.underlying3 g0
          obtain ⟨k1, e1, _, _⟩ := DataW.trod_int Tryd.underlying3 g1
          obtain ⟨k2, e2, f2, _⟩ := DataW.trod_string Tryd.underlying9 q0
          obtain ⟨k3, e3, f3, _⟩ := DataW.trod_string Tryd.underlying9 q1
          obtain ⟨k4, e4, f4⟩ := DataW.trod_bool Tryd.underlying4 q2
          simp only [List.cons.injEq, and_true] at e0 e1 e2 e3 e4
          subst e0 e1 e2 e3 e4 f2 f3 f4
          have t0 := hat 0 (by omega)
          have t1 := hat 1 (by omega)
          have t2 := hat 2 (by omega)
          have t3 := hat 3 (by omega)
          have t4 := hat 4 (by omega)
          rw [add_of_add, hA, add_plain] at t0 t1 t2 t3 t4
          refine ⟨⟨k0, k1, k2, k3, k4⟩, ⟨b, off, congrArg some hA, cell_lt t0, t0, t1, t2, t3, t4⟩, ?_⟩
          simp only [Prod.mk.injEq] at hy
          rw [hy.1]
          simp only [List.map_cons, List.map_nil, Rows.uptoBulk, Rows.uptoBulkAll, hz]
          simp only [hsz, Cal.hd]
          have : k2.data.toList.length = k2.size := Array.length_toList
          have : k3.data.toList.length = k3.size := Array.length_toList
          omega
    obtain ⟨l, hll, hp⟩ := list_of_each _ len each
    subst hll
    simp only [Prod.mk.injEq] at hx
    refine ⟨some a, l, cap, rfl, fun i c hc => (hp i c hc).1, fun hd => ?_⟩
    rw [hx.1, Rows.uptoBulk] at hd
    have hlen := bulk_len ((List.range l.length).map D)
    rw [List.length_map, List.length_range] at hlen
    refine ⟨fun c hc => ?_, by omega⟩
    obtain ⟨i, hi2, rfl⟩ := List.getElem_of_mem hc
    have h1 := (hp i _ (List.getElem?_eq_getElem hi2)).2
    have h2 : Rows.uptoBulk (D i) ≤ Rows.uptoBulkAll ((List.range l.length).map D) := bulk_part (List.mem_map.2 ⟨i, List.mem_range.2 hi2, rfl⟩)
    omega
end
end Go.Proofs.YtflmgjidnclegaaDoor
