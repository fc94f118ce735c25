/-
  What the listed variables give the hpack laws; how their arguments are opened.
-/
import Derived.Test.YtflmgjidnclegaaDoorLaidBM
import Derived.Test.YtflmgjidnclegaaDoorHpkLBoundM
import Derived.ChangeMaps5
namespace Go.Proofs.YtflmgjidnclegaaDoor
open Go.ChangeShapes Go.WideShapes Go.ChangeAt Go.RowKit Go.Deep Go.Joins Go.ChangeMaps
open Hpk (Er Errs gOf evOf Glob Bk BksAt)
open Tab (Hn HnAt hsz)
theorem gEnd : Tryd.prog.globalNamed "parley/api.ErrEnd" = some 3 := by kernel_rfl
theorem tEnd : (Tryd.prog.globals[3]?).map (·.type) = some 35 := by kernel_rfl
theorem gLong : Tryd.prog.globalNamed "parley/api.ErrLong" = some 2 := by kernel_rfl
theorem tLong : (Tryd.prog.globals[2]?).map (·.type) = some 35 := by kernel_rfl
theorem gHuff : Tryd.prog.globalNamed "parley/api.ErrHuff" = some 7 := by kernel_rfl
theorem tHuff : (Tryd.prog.globals[7]?).map (·.type) = some 35 := by kernel_rfl
theorem gIndex : Tryd.prog.globalNamed "parley/api.ErrIndex" = some 5 := by kernel_rfl
theorem tIndex : (Tryd.prog.globals[5]?).map (·.type) = some 35 := by kernel_rfl
theorem gList : Tryd.prog.globalNamed "parley/api.ErrList" = some 4 := by kernel_rfl
theorem tList : (Tryd.prog.globals[4]?).map (·.type) = some 35 := by kernel_rfl
theorem gGone : Tryd.prog.globalNamed "parley/api.ErrGone" = some 1 := by kernel_rfl
theorem tGone : (Tryd.prog.globals[1]?).map (·.type) = some 35 := by kernel_rfl
theorem plainListH : (Rows.hpackNeverRow.laid.all fun x => x.2.handleName?.isNone) = true := by kernel_rfl
theorem g9 : (((begin Tryd.prog (fun _ _ => 0) default).world.heap[9]?).bind Obj.row?).isSome = true := by kernel_rfl
theorem heap10 {W : World} (h : W.ShapedOpen Tryd.prog) : 10 ≤ W.heap.size := by
  obtain ⟨⟨z, t⟩, hx⟩ := Option.isSome_iff_exists.1 g9
  obtain ⟨cs, hc, _⟩ := h.1 9 z t (of_decide_eq_true (by kernel_rfl)) hx
  rcases Nat.lt_or_ge 9 W.heap.size with h1 | h1
  · omega
  · rw [Array.getElem?_eq_none h1] at hc; cases hc
set_option maxRecDepth 100000 in
theorem glob_of {W : World} (h : laidMetH Tryd.prog Rows.hpackNeverRow.laid W) (hS : W.ShapedOpen Tryd.prog) : ∃ (ad : Er → Addr) (M : Int), Glob W (evOf ad) M := by
  rw [MakeChecks.laidMetH_plain _ _ _ plainListH] at h
  have h' : laidMet Tryd.prog [("unicode/utf8.acceptRanges", Rows.laid_unicode_utf8_acceptRanges), ("parley/api.ErrEnd", Rows.laid_parley_api_ErrEnd), ("parley/api.ErrLong", Rows.laid_parley_api_ErrLong), ("parley/api.ErrHuff", Rows.laid_parley_api_ErrHuff), ("parley/api.ErrIndex", Rows.laid_parley_api_ErrIndex), ("parley/api.ErrTable", Rows.laid_parley_api_ErrTable), ("parley/api.ErrList", Rows.laid_parley_api_ErrList), ("parley/api.ErrGone", Rows.laid_parley_api_ErrGone), ("unicode/utf8.first", Rows.laid_unicode_utf8_first)] W := h
  have t1 := h'.tail
  have t2 := t1.tail
  have t3 := t2.tail
  have t4 := t3.tail
  have t5 := t4.tail
  have t6 := t5.tail
  have t7 := t6.tail
  obtain ⟨a1, s1, hv1, _⟩ := laid_sentinel t1 gEnd tEnd Tryd.underlying35 rowE Tryd.underlying149 Tryd.underlying164 rfl rfl Tryd.underlying9 cellsE cellsS
  obtain ⟨a2, s2, hv2, _⟩ := laid_sentinel t2 gLong tLong Tryd.underlying35 rowE Tryd.underlying149 Tryd.underlying164 rfl rfl Tryd.underlying9 cellsE cellsS
  obtain ⟨a3, s3, hv3, _⟩ := laid_sentinel t3 gHuff tHuff Tryd.underlying35 rowE Tryd.underlying149 Tryd.underlying164 rfl rfl Tryd.underlying9 cellsE cellsS
  obtain ⟨a4, s4, hv4, _⟩ := laid_sentinel t4 gIndex tIndex Tryd.underlying35 rowE Tryd.underlying149 Tryd.underlying164 rfl rfl Tryd.underlying9 cellsE cellsS
  obtain ⟨a5, s5, hv5, _⟩ := laid_sentinel t5 gT tT Tryd.underlying35 rowE Tryd.underlying149 Tryd.underlying164 rfl rfl Tryd.underlying9 cellsE cellsS
  obtain ⟨a6, s6, hv6, _⟩ := laid_sentinel t6 gList tList Tryd.underlying35 rowE Tryd.underlying149 Tryd.underlying164 rfl rfl Tryd.underlying9 cellsE cellsS
  obtain ⟨a7, s7, hv7, _⟩ := laid_sentinel t7 gGone tGone Tryd.underlying35 rowE Tryd.underlying149 Tryd.underlying164 rfl rfl Tryd.underlying9 cellsE cellsS
  obtain ⟨M, hM⟩ := maxLen_of hS
  have hs := heap10 hS
  refine ⟨fun er => match er with | .long => a2 | .end_ => a1 | .huff => a3 | .index => a4 | .list => a6 | .table => a5 | .gone => a7, M, ?_, hM, hs⟩
  intro er
  cases er with
  | long => exact ⟨World.var?_cell gLong hv2 0, Nat.lt_of_lt_of_le (by decide) hs, _, _, rfl⟩
  | end_ => exact ⟨World.var?_cell gEnd hv1 0, Nat.lt_of_lt_of_le (by decide) hs, _, _, rfl⟩
  | huff => exact ⟨World.var?_cell gHuff hv3 0, Nat.lt_of_lt_of_le (by decide) hs, _, _, rfl⟩
  | index => exact ⟨World.var?_cell gIndex hv4 0, Nat.lt_of_lt_of_le (by decide) hs, _, _, rfl⟩
  | list => exact ⟨World.var?_cell gList hv6 0, Nat.lt_of_lt_of_le (by decide) hs, _, _, rfl⟩
  | table => exact ⟨World.var?_cell gT hv5 0, Nat.lt_of_lt_of_le (by decide) hs, _, _, rfl⟩
  | gone => exact ⟨World.var?_cell gGone hv7 0, Nat.lt_of_lt_of_le (by decide) hs, _, _, rfl⟩
theorem door_metH (os : Os) (args : Array Value) : laidMetH Tryd.prog Rows.hpackNeverRow.laid ((World.laidAll Tryd.prog os Rows.hpackNeverRow.laid).forCall (fun _ _ => 0) ⟨#[], args, []⟩).memory := by
  rw [MakeChecks.laidMetH_plain _ _ _ plainListH]
  exact laidMet_laidAll _ (by kernel_rfl) (by kernel_rfl)
theorem co5 : Tryd.prog.cellsOf 5 = 1 := by kernel_rfl
theorem co66 : Tryd.prog.cellsOf 66 = 1 := by kernel_rfl
theorem co51 : Tryd.prog.cellsOf 51 = 1 := by kernel_rfl
theorem co79 : Tryd.prog.cellsOf 79 = 2 := by kernel_rfl
section
variable {H : Type} {enc : TypeId × Value → H}
/-- a slice of bytes, as the walk wants it -/
theorem bytes_in {W : World} {fuel : Nat} {cs : List Value} {x : DataW H × List MemPlace} (hf : DataW.trod enc Tryd.prog W 0 (fun _ => true) true fuel 66 cs = some x) :
    ∃ (A : Option Addr) (xs : List UInt8) (cap : Nat), cs = [.slice A xs.length cap] ∧ Huff.BytesAt W A xs ∧ (xs.length ≤ cap ∧ cap ≤ 9223372036854775807) := by
  rcases open_ints Tryd.underlying66 Tryd.underlying5 co5 hf with ⟨hcs, _⟩ | ⟨a, len, cap, zs, hcs, _, hl, hm, hz, _, hcell, hwz⟩
  · exact ⟨none, [], 0, hcs, fun i hi => by simp at hi, by simp⟩
  · simp only [if_true] at hz
    unfold maxLen at hm
    have hlen : ((zs.take len).map fun n => UInt8.ofNat n.toNat).length = len := by simp; omega
    refine ⟨some a, (zs.take len).map fun n => UInt8.ofNat n.toNat, cap, by rw [hlen]; exact hcs, fun i hi => ?_, by omega⟩
    rw [hlen] at hi
    obtain ⟨ab, ao, spot⟩ := a
    have hc0 := hcell 0 (by omega)
    have hspot : spot = none := by simpa [Addr.add] using World.cell?_spot hc0
    subst hspot
    have hci := hcell i (by omega)
    rw [Addr.add_lit] at hci
    refine ⟨ab, ao, rfl, cell_lt hci, ?_⟩
    rw [hci]
    have hb := range_u8 hwz i
    have e : zs.getD i 0 = zs[i]'(by omega) := by simp [List.getD, List.getElem?_eq_getElem (show i < zs.length by omega)]
    have e2 : ((zs.take len).map fun n => UInt8.ofNat n.toNat).getD i 0 = UInt8.ofNat (zs[i]'(by omega)).toNat := by
      simp [List.getD, hi, List.getElem?_eq_getElem (show i < zs.length by omega)]
    rw [List.getD_eq_getElem?_getD] at e
    rw [e] at hb
    rw [List.getD_eq_getElem?_getD, e, e2]
    congr 2
    simp only [UInt8.toNat_ofNat']
    omega
set_option maxRecDepth 100000 in
theorem bks_of {W : World} {v : Value} {base : Nat} {d : DataW H} {p : List MemPlace} (hv : Value.okWide Tryd.prog W .any base 71 v)
    (h : DataW.Trod enc Tryd.prog W 0 (fun _ => true) true 71 v d p) :
    ∃ (A : Option Addr) (l : List Bk) (cap : Nat), v = .slice A l.length cap ∧ BksAt W A l ∧ l.length ≤ 9223372036854775807 := by
  obtain ⟨a0, len, cap, rfl⟩ := okWide_slice Tryd.underlying71 hv
  obtain ⟨fuel, hf⟩ := h
  rcases open_slice Tryd.underlying71 hf with ⟨hcs, _⟩ | ⟨a, len', cap', m, n, D, Pl, hcs, _, hl, hm, hmm, hx, hi⟩
  · simp only [Value.cells] at hcs
    injection hcs with hcs
    injection hcs with e1 e2 e3
    subst e1 e2 e3
    exact ⟨none, [], 0, rfl, fun i c h => by simp at h, by simp⟩
  · simp only [Value.cells] at hcs
    injection hcs with hcs
    injection hcs with e1 e2 e3
    subst e1 e2 e3
    unfold maxLen at hm
    simp only [if_true] at hmm
    rw [co66] at hi
    have each : ∀ i, i < len → ∃ c : Bk, ∃ b off, (some a : Option Addr) = some ⟨b, off, none⟩ ∧ b < W.heap.size ∧
        W.cell? ⟨b, off + i, none⟩ = some (.slice c.1 c.2.2.length c.2.1) ∧ Huff.BytesAt W c.1 c.2.2 ∧ (c.2.2.length ≤ c.2.1 ∧ c.2.1 ≤ 9223372036854775807) := by
      intro i hil
      obtain ⟨b, off, hA⟩ : ∃ b off, a = ⟨b, off, none⟩ := by
        obtain ⟨c0, hc0, _⟩ := hi 0 (by omega)
        obtain ⟨_, hcl, hat⟩ := World.cells?_some hc0
        have h0 := hat 0 (by omega)
        rw [List.getElem?_eq_getElem (by omega)] at h0
        obtain ⟨b, off, spot⟩ := a
        have hspot : spot = none := by simpa [Addr.add] using World.cell?_spot h0
        exact ⟨b, off, by rw [hspot]⟩
      obtain ⟨cs', hc, ht⟩ := hi i (by omega)
      obtain ⟨_, hcl, hat⟩ := World.cells?_some hc
      obtain ⟨Ai, xs, ci, rfl, hb, hcap⟩ := bytes_in ht
      have t0 := hat 0 (by omega)
      rw [add_of_add, hA, add_plain, Nat.mul_one] at t0
      exact ⟨(Ai, ci, xs), b, off, congrArg some hA, cell_lt t0, t0, hb, hcap⟩
    obtain ⟨l, hll, hp⟩ := list_of_each _ len each
    subst hll
    exact ⟨some a, l, cap, rfl, hp, by omega⟩
set_option maxRecDepth 100000 in
theorem hns_in {W : World} {fuel : Nat} {cs : List Value} {x : DataW H × List MemPlace} (hf : DataW.trod enc Tryd.prog W 0 (fun _ => true) true fuel 51 cs = some x) :
    ∃ (A : Option Addr) (L : List Hn) (cap : Nat), cs = [.slice A L.length cap] ∧ HnAt W A L ∧ L.length ≤ Rows.uptoBulk x.1 ∧ (∀ h ∈ L, hsz (h.1, h.2.1) ≤ Rows.uptoBulk x.1 + 32) ∧ ∀ ad, A = some ad → 0 < L.length → ad.block < W.heap.size := by
  rcases open_slice Tryd.underlying51 hf with ⟨hcs, hx⟩ | ⟨a, len, cap, m, n, D, Pl, hcs, _, hl, hm, hmm, hx, hi⟩
  · exact ⟨none, [], 0, hcs, fun i c h => by simp at h, by simp, fun h hh => by simp at hh, fun ad e => by cases e⟩
  · unfold maxLen at hm
    simp only [if_true] at hmm
    rw [co23] at hi
    have each : ∀ i, i < len → ∃ c : Hn, (∃ b off, (some a : Option Addr) = some ⟨b, off, none⟩ ∧ b < W.heap.size ∧
        W.cell? ⟨b, off + i * 3, none⟩ = some (.string c.1) ∧ W.cell? ⟨b, off + i * 3 + 1, none⟩ = some (.string c.2.1) ∧ W.cell? ⟨b, off + i * 3 + 2, none⟩ = some (.bool c.2.2)) ∧ hsz (c.1, c.2.1) ≤ Rows.uptoBulk (D i) + 32 := by
      intro i hil
      obtain ⟨b, off, hA⟩ : ∃ b off, a = ⟨b, off, none⟩ := by
        obtain ⟨c0, hc0, _⟩ := hi 0 (by omega)
        obtain ⟨_, hcl, hat⟩ := World.cells?_some hc0
        have h0 := hat 0 (by omega)
        rw [List.getElem?_eq_getElem (by omega)] at h0
        obtain ⟨b, off, spot⟩ := a
        have hspot : spot = none := by simpa [Addr.add] using World.cell?_spot h0
        exact ⟨b, off, by rw [hspot]⟩
      obtain ⟨cs', hc, ht⟩ := hi i (by omega)
      obtain ⟨_, hcl, hat⟩ := World.cells?_some hc
      match cs', hcl with
      | [x2, x3, x4], _ =>
        obtain ⟨zs, n2, _, hz, _, hzl, hh⟩ := DataW.trod_struct Tryd.underlying23 ht
        match zs, hzl with
        | [z0, z1, z2], _ =>
          have q0 : DataW.trod enc Tryd.prog W 0 (fun _ => true) true n2 9 (List.take (Tryd.prog.cellsOf 9) (List.drop 0 [x2, x3, x4])) = some z0 := hh 0 _ rfl
          rw [co9] at q0
          have q0 : DataW.trod enc Tryd.prog W 0 (fun _ => true) true n2 9 [x2] = some z0 := q0
          have q1 : DataW.trod enc Tryd.prog W 0 (fun _ => true) true n2 9 (List.take (Tryd.prog.cellsOf 9) (List.drop 1 [x2, x3, x4])) = some z1 := hh 1 _ rfl
          rw [co9] at q1
          have q1 : DataW.trod enc Tryd.prog W 0 (fun _ => true) true n2 9 [x3] = some z1 := q1
          have q2 : DataW.trod enc Tryd.prog W 0 (fun _ => true) true n2 4 (List.take (Tryd.prog.cellsOf 4) (List.drop 2 [x2, x3, x4])) = some z2 := hh 2 _ rfl
          rw [co4] at q2
          have q2 : DataW.trod enc Tryd.prog W 0 (fun _ => true) true n2 4 [x4] = some z2 := q2
          obtain ⟨k2, e2, f2, _⟩ := DataW.trod_string Tryd.underlying9 q0
          obtain ⟨k3, e3, f3, _⟩ := DataW.trod_string Tryd.underlying9 q1
          obtain ⟨k4, e4, f4⟩ := DataW.trod_bool Tryd.underlying4 q2
          simp only [List.cons.injEq, and_true] at e2 e3 e4
          subst e2 e3 e4 f2 f3 f4
          have t2 := hat 0 (by omega)
          have t3 := hat 1 (by omega)
          have t4 := hat 2 (by omega)
          rw [add_of_add, hA, add_plain] at t2 t3 t4
          refine ⟨(k2, k3, k4), ⟨b, off, congrArg some hA, cell_lt t2, t2, t3, t4⟩, ?_⟩
          simp only [Prod.mk.injEq] at hz
          rw [hz.1]
          simp only [List.map_cons, List.map_nil, Rows.uptoBulk, Rows.uptoBulkAll]
          simp only [hsz]
          have : k2.data.toList.length = k2.size := Array.length_toList
          have : k3.data.toList.length = k3.size := Array.length_toList
          omega
    obtain ⟨l, hll, hp⟩ := list_of_each _ len each
    subst hll
    rw [hx]
    simp only [Rows.uptoBulk]
    have hlen := bulk_len ((List.range l.length).map D)
    rw [List.length_map, List.length_range] at hlen
    refine ⟨some a, l, cap, hcs, fun i c hc => (hp i c hc).1, by omega, fun c hc => ?_, fun ad e h0 => ?_⟩
    · obtain ⟨i, hi2, rfl⟩ := List.getElem_of_mem hc
      have h1 := (hp i _ (List.getElem?_eq_getElem hi2)).2
      have h2 : Rows.uptoBulk (D i) ≤ Rows.uptoBulkAll ((List.range l.length).map D) := bulk_part (List.mem_map.2 ⟨i, List.mem_range.2 hi2, rfl⟩)
      omega
    · injection e with e
      subst e
      obtain ⟨b, off, e, hb, _⟩ := (hp 0 _ (List.getElem?_eq_getElem h0)).1
      injection e with e
      rw [e]
      exact hb
set_option maxRecDepth 100000 in
theorem hns_of {W : World} {v : Value} {base : Nat} {d : DataW H} {p : List MemPlace} (hv : Value.okWide Tryd.prog W .any base 51 v)
    (h : DataW.Trod enc Tryd.prog W 0 (fun _ => true) true 51 v d p) :
    ∃ (A : Option Addr) (L : List Hn) (cap : Nat), v = .slice A L.length cap ∧ HnAt W A L ∧ L.length ≤ Rows.uptoBulk d ∧ (∀ h ∈ L, hsz (h.1, h.2.1) ≤ Rows.uptoBulk d + 32) ∧ ∀ ad, A = some ad → 0 < L.length → ad.block < W.heap.size := by
  obtain ⟨a0, len, cap, rfl⟩ := okWide_slice Tryd.underlying51 hv
  obtain ⟨fuel, hf⟩ := h
  obtain ⟨A, L, c, hcs, h1, h2, h3, h4⟩ := hns_in hf
  simp only [Value.cells] at hcs
  injection hcs with hcs
  injection hcs with e1 e2 e3
  subst e1 e2 e3
  exact ⟨_, L, _, rfl, h1, h2, h3, h4⟩
end
end Go.Proofs.YtflmgjidnclegaaDoor
