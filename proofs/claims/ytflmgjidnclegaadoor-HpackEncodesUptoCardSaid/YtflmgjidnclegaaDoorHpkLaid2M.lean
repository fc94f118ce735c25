/-
  How the blocks among the hpack laws' arguments are opened.
-/
import Derived.Test.YtflmgjidnclegaaDoorHpkLaidM
import Derived.Test.YtflmgjidnclegaaDoorHpkAllM
namespace Go.Proofs.YtflmgjidnclegaaDoor
open Go.ChangeShapes Go.WideShapes Go.ChangeAt Go.RowKit Go.Deep Go.Joins Go.ChangeMaps
open Hpk (Bl BlAt)
open Tab (Hn HnAt hsz)
section
variable {H : Type} {enc : TypeId × Value → H}
set_option maxRecDepth 100000 in
theorem blks_of {W : World} {v : Value} {base : Nat} {d : DataW H} {p : List MemPlace} (hv : Value.okWide Tryd.prog W .any base 74 v)
    (h : DataW.Trod enc Tryd.prog W 0 (fun _ => true) true 74 v d p) :
    ∃ (A : Option Addr) (l : List Bl) (cap : Nat), v = .slice A l.length cap ∧ BlAt W A l ∧ l.length ≤ Rows.uptoBulk d ∧ ∀ x ∈ l, x.L.length ≤ Rows.uptoBulk d ∧ ∀ h ∈ x.L, hsz (h.1, h.2.1) ≤ Rows.uptoBulk d + 32 := by
  obtain ⟨a0, len, cap, rfl⟩ := okWide_slice Tryd.underlying74 hv
  obtain ⟨fuel, hf⟩ := h
  rcases open_slice Tryd.underlying74 hf with ⟨hcs, hx⟩ | ⟨a, len', cap', m, n, D, Pl, hcs, _, hl, hm, hmm, hx, hi⟩
  · simp only [Value.cells] at hcs
    injection hcs with hcs
    injection hcs with e1 e2 e3
    subst e1 e2 e3
    exact ⟨none, [], 0, rfl, fun i c h => by simp at h, by simp, fun x hx => by simp at hx⟩
  · simp only [Value.cells] at hcs
    injection hcs with hcs
    injection hcs with e1 e2 e3
    subst e1 e2 e3
    unfold maxLen at hm
    simp only [if_true] at hmm
    rw [co79] at hi
    have each : ∀ i, i < len → ∃ c : Bl, (∃ b off, (some a : Option Addr) = some ⟨b, off, none⟩ ∧ b < W.heap.size ∧
        W.cell? ⟨b, off + i * 2, none⟩ = some (.int .i64 c.size) ∧ W.cell? ⟨b, off + i * 2 + 1, none⟩ = some (.slice c.A c.L.length c.cap) ∧ HnAt W c.A c.L) ∧
        c.L.length ≤ Rows.uptoBulk (D i) ∧ ∀ h ∈ c.L, hsz (h.1, h.2.1) ≤ Rows.uptoBulk (D i) + 32 := by
      intro i hil
      obtain ⟨b, off, hA⟩ : ∃ b off, a = ⟨b, off, none⟩ := by
        obtain ⟨c0, hc0, _⟩ := hi 0 (by omega)
        obtain ⟨_, hcl, hat⟩ := World.cells?_some hc0
        have h0 := hat 0 (by omega)
        rw [List.getElem?_eq_getElem (by omega)] at h0
        obtain ⟨b, off, spot⟩ := a
        have hspot : spot = none := by simpa [Addr.add] using World.cell?_spot h0
        exact ⟨b, off, by rw [hspot]⟩
      obtain ⟨cs', hc, ht⟩ := hi i (by omega)
      obtain ⟨_, hcl, hat⟩ := World.cells?_some hc
      match cs', hcl with
      | [x0, x1], _ =>
        obtain ⟨zs, n2, _, hz, _, hzl, hh⟩ := DataW.trod_struct Tryd.underlying79 ht
        match zs, hzl with
        | [z0, z1], _ =>
          have q0 : DataW.trod enc Tryd.prog W 0 (fun _ => true) true n2 3 (List.take (Tryd.prog.cellsOf 3) (List.drop 0 [x0, x1])) = some z0 := hh 0 _ rfl
          rw [co3] at q0
          have q0 : DataW.trod enc Tryd.prog W 0 (fun _ => true) true n2 3 [x0] = some z0 := q0
          have q1 : DataW.trod enc Tryd.prog W 0 (fun _ => true) true n2 51 (List.take (Tryd.prog.cellsOf 51) (List.drop 1 [x0, x1])) = some z1 := hh 1 _ rfl
          rw [co51] at q1
          have q1 : DataW.trod enc Tryd.prog W 0 (fun _ => true) true n2 51 [x1] = some z1 := q1
          obtain ⟨k0, e0, _, _⟩ := DataW.trod_int Tryd.underlying3 q0
          obtain ⟨A1, L1, c1, e1, hA1, hl1, hz1, _⟩ := hns_in q1
          simp only [List.cons.injEq, and_true] at e0 e1
          subst e0 e1
          have t0 := hat 0 (by omega)
          have t1 := hat 1 (by omega)
          rw [add_of_add, hA, add_plain] at t0 t1
          have hbk : Rows.uptoBulk z1.1 ≤ Rows.uptoBulk (D i) := by
            simp only [Prod.mk.injEq] at hz
            rw [hz.1]
            simp only [List.map_cons, List.map_nil, Rows.uptoBulk, Rows.uptoBulkAll]
            omega
          exact ⟨⟨k0, A1, c1, L1⟩, ⟨b, off, congrArg some hA, cell_lt t0, t0, t1, hA1⟩, Nat.le_trans hl1 hbk, fun h hh => Nat.le_trans (hz1 h hh) (by omega)⟩
    obtain ⟨l, hll, hp⟩ := list_of_each _ len each
    subst hll
    simp only [Prod.mk.injEq] at hx
    rw [hx.1]
    simp only [Rows.uptoBulk]
    have hlen := bulk_len ((List.range l.length).map D)
    rw [List.length_map, List.length_range] at hlen
    refine ⟨some a, l, cap, rfl, fun i c hc => (hp i c hc).1, by omega, fun x hx => ?_⟩
    obtain ⟨i, hi2, rfl⟩ := List.getElem_of_mem hx
    have h1 := (hp i _ (List.getElem?_eq_getElem hi2)).2
    have h2 : Rows.uptoBulk (D i) ≤ Rows.uptoBulkAll ((List.range l.length).map D) := bulk_part (List.mem_map.2 ⟨i, List.mem_range.2 hi2, rfl⟩)
    exact ⟨by have := h1.1; omega, fun h hh => by have := h1.2 h hh; omega⟩
end
end Go.Proofs.YtflmgjidnclegaaDoor
