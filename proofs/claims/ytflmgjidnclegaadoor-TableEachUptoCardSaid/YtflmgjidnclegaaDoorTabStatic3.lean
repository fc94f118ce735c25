/-
  The walk of table.Static at an index that stands.
-/
import Derived.Test.YtflmgjidnclegaaDoorTabStatic2
namespace Go.Proofs.YtflmgjidnclegaaDoor.Tab
open Go.RowKit
set_option maxRecDepth 100000 in
theorem static_yes (m : Int) (k : Nat) (hk : k < 61) (n v : List UInt8) (hp : pairsT[k]? = some (n, v)) (w : World) (hm : w.cell? ⟨6, 0, none⟩ = some (.int .i64 m)) (hg : 6 < w.heap.size) :
    Calls Tryd.prog 14 #[.int .i64 ((k : Int) + 1)] w fun e w' => e = .returned (.tuple #[.agg #[.string ⟨n.toArray⟩, .string ⟨v.toArray⟩, .bool false], .bool true]) ∧ Below w.heap.size w w' := by
  obtain ⟨p, hp1, hp2, hp3, hp4⟩ := line_get k hk
  have e : n = (Lib.cut p [32]).1 ∧ v = (Lib.cut p [32]).2.1 := by rw [hp] at hp4; injection hp4 with h; injection h with h1 h2; exact ⟨h1, h2⟩
  have hB1 : Below w.heap.size w (w.alloc (.cells #[.string ByteArray.empty, .string ByteArray.empty, .bool false] 23)) := (Below.refl _ _).alloc (Nat.le_refl _) _
  have HS := Lib.hid (stands_any m (w.alloc (.cells #[.string ByteArray.empty, .string ByteArray.empty, .bool false] 23)) ((hB1.cell hg).trans hm))
  have hB2 := hB1.alloc hB1.size (.cells linesV 9)
  have HC0 := (Tryd.strings_Cut ⟨p.toArray⟩ ⟨#[32]⟩ m ((w.alloc (.cells #[.string ByteArray.empty, .string ByteArray.empty, .bool false] 23)).alloc (.cells linesV 9)) (by show p.toArray.size < _; rw [List.size_toArray]; omega) ((hB2.cell hg).trans hm))
  have c0 : ((w.alloc (.cells #[.string ByteArray.empty, .string ByteArray.empty, .bool false] 23)).alloc (.cells linesV 9)).cell? ⟨w.heap.size + 1, k, none⟩ = some (.string ⟨p.toArray⟩) := by
    rw [show w.heap.size + 1 = (w.alloc (.cells #[.string ByteArray.empty, .string ByteArray.empty, .bool false] 23)).heap.size by simp, World.cell?_alloc_at _ _ _ _ rfl]
    exact hp3
  rw [show (⟨p.toArray⟩ : ByteArray).data.toList = p by simp, show (⟨#[32]⟩ : ByteArray).data.toList = [32] from rfl, ← e.1, ← e.2] at HC0
  generalize (Lib.cut p [32]).2.2 = bb at HC0
  clear e hp hp1 hp3 hp4 hm
  generalize linesV = LV at HS HC0 c0 hB2
  generalize (⟨p.toArray⟩ : ByteArray) = P at HC0 c0
  have HC := Lib.hid HC0
  have HB2 := Lib.hid hB2
  clear HC0 hB2 hB1 hp2
  go_enter Tryd.func14, Tryd.ntmps14
  go_wp2_with fail
  refine HS.out.mono ?_
  rintro e w' ⟨rfl, rfl⟩
  go_wp2_with fail
  refine HC.out.mono ?_
  rintro e w' ⟨rfl, q, rfl⟩
  go_wp2_with fail
  have ka := (Blk.new w 23 #[.string ByteArray.empty, .string ByteArray.empty, .bool false]).alloc (.cells LV 9)
  have kb := ka.below (below_drewN (Below.refl _ _) q) ka.lt
  have kc := ((kb.set_ 0 (.string ⟨n.toArray⟩)).set_ 1 (.string ⟨v.toArray⟩)).set_ 2 (.bool false)
  have hb := below_drewN HB2.out q
  have hb3 := ((hb.setCell (p := ⟨w.heap.size, 0, none⟩) (Nat.le_refl _) (.string ⟨n.toArray⟩)).setCell (p := ⟨w.heap.size, 1, none⟩) (Nat.le_refl _) (.string ⟨v.toArray⟩)).setCell (p := ⟨w.heap.size, 2, none⟩) (Nat.le_refl _) (.bool false)
  exact hdr_ret rfl rfl rfl rfl kc ⟨rfl, hb3⟩
end Go.Proofs.YtflmgjidnclegaaDoor.Tab
