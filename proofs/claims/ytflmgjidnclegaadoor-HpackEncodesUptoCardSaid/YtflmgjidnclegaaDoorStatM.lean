/-
  The table that stands: its text, its lines, its names and values: what Split and Cut make of it.
-/
import Derived.Test.YtflmgjidnclegaaDoorShelf
import Derived.Test.YtflmgjidnclegaaDoorBaseM
import Derived.Laws.ResultCell
namespace Go.Proofs.YtflmgjidnclegaaDoor.Tab
open Go
def txT : List UInt8 := [58, 97, 117, 116, 104, 111, 114, 105, 116, 121, 10, 58, 109, 101, 116, 104, 111, 100, 32, 71, 69, 84, 10, 58, 109, 101, 116, 104, 111, 100, 32, 80, 79, 83, 84, 10, 58, 112, 97, 116, 104, 32, 47, 10, 58, 112, 97, 116, 104, 32, 47, 105, 110, 100, 101, 120, 46, 104, 116, 109, 108, 10, 58, 115, 99, 104, 101, 109, 101, 32, 104, 116, 116, 112, 10, 58, 115, 99, 104, 101, 109, 101, 32, 104, 116, 116, 112, 115, 10, 58, 115, 116, 97, 116, 117, 115, 32, 50, 48, 48, 10, 58, 115, 116, 97, 116, 117, 115, 32, 50, 48, 52, 10, 58, 115, 116, 97, 116, 117, 115, 32, 50, 48, 54, 10, 58, 115, 116, 97, 116, 117, 115, 32, 51, 48, 52, 10, 58, 115, 116, 97, 116, 117, 115, 32, 52, 48, 48, 10, 58, 115, 116, 97, 116, 117, 115, 32, 52, 48, 52, 10, 58, 115, 116, 97, 116, 117, 115, 32, 53, 48, 48, 10, 97, 99, 99, 101, 112, 116, 45, 99, 104, 97, 114, 115, 101, 116, 10, 97, 99, 99, 101, 112, 116, 45, 101, 110, 99, 111, 100, 105, 110, 103, 32, 103, 122, 105, 112, 44, 32, 100, 101, 102, 108, 97, 116, 101, 10, 97, 99, 99, 101, 112, 116, 45, 108, 97, 110, 103, 117, 97, 103, 101, 10, 97, 99, 99, 101, 112, 116, 45, 114, 97, 110, 103, 101, 115, 10, 97, 99, 99, 101, 112, 116, 10, 97, 99, 99, 101, 115, 115, 45, 99, 111, 110, 116, 114, 111, 108, 45, 97, 108, 108, 111, 119, 45, 111, 114, 105, 103, 105, 110, 10, 97, 103, 101, 10, 97, 108, 108, 111, 119, 10, 97, 117, 116, 104, 111, 114, 105, 122, 97, 116, 105, 111, 110, 10, 99, 97, 99, 104, 101, 45, 99, 111, 110, 116, 114, 111, 108, 10, 99, 111, 110, 116, 101, 110, 116, 45, 100, 105, 115, 112, 111, 115, 105, 116, 105, 111, 110, 10, 99, 111, 110, 116, 101, 110, 116, 45, 101, 110, 99, 111, 100, 105, 110, 103, 10, 99, 111, 110, 116, 101, 110, 116, 45, 108, 97, 110, 103, 117, 97, 103, 101, 10, 99, 111, 110, 116, 101, 110, 116, 45, 108, 101, 110, 103, 116, 104, 10, 99, 111, 110, 116, 101, 110, 116, 45, 108, 111, 99, 97, 116, 105, 111, 110, 10, 99, 111, 110, 116, 101, 110, 116, 45, 114, 97, 110, 103, 101, 10, 99, 111, 110, 116, 101, 110, 116, 45, 116, 121, 112, 101, 10, 99, 111, 111, 107, 105, 101, 10, 100, 97, 116, 101, 10, 101, 116, 97, 103, 10, 101, 120, 112, 101, 99, 116, 10, 101, 120, 112, 105, 114, 101, 115, 10, 102, 114, 111, 109, 10, 104, 111, 115, 116, 10, 105, 102, 45, 109, 97, 116, 99, 104, 10, 105, 102, 45, 109, 111, 100, 105, 102, 105, 101, 100, 45, 115, 105, 110, 99, 101, 10, 105, 102, 45, 110, 111, 110, 101, 45, 109, 97, 116, 99, 104, 10, 105, 102, 45, 114, 97, 110, 103, 101, 10, 105, 102, 45, 117, 110, 109, 111, 100, 105, 102, 105, 101, 100, 45, 115, 105, 110, 99, 101, 10, 108, 97, 115, 116, 45, 109, 111, 100, 105, 102, 105, 101, 100, 10, 108, 105, 110, 107, 10, 108, 111, 99, 97, 116, 105, 111, 110, 10, 109, 97, 120, 45, 102, 111, 114, 119, 97, 114, 100, 115, 10, 112, 114, 111, 120, 121, 45, 97, 117, 116, 104, 101, 110, 116, 105, 99, 97, 116, 101, 10, 112, 114, 111, 120, 121, 45, 97, 117, 116, 104, 111, 114, 105, 122, 97, 116, 105, 111, 110, 10, 114, 97, 110, 103, 101, 10, 114, 101, 102, 101, 114, 101, 114, 10, 114, 101, 102, 114, 101, 115, 104, 10, 114, 101, 116, 114, 121, 45, 97, 102, 116, 101, 114, 10, 115, 101, 114, 118, 101, 114, 10, 115, 101, 116, 45, 99, 111, 111, 107, 105, 101, 10, 115, 116, 114, 105, 99, 116, 45, 116, 114, 97, 110, 115, 112, 111, 114, 116, 45, 115, 101, 99, 117, 114, 105, 116, 121, 10, 116, 114, 97, 110, 115, 102, 101, 114, 45, 101, 110, 99, 111, 100, 105, 110, 103, 10, 117, 115, 101, 114, 45, 97, 103, 101, 110, 116, 10, 118, 97, 114, 121, 10, 118, 105, 97, 10, 119, 119, 119, 45, 97, 117, 116, 104, 101, 110, 116, 105, 99, 97, 116, 101]
def piecesT : List (List UInt8) := [[58, 97, 117, 116, 104, 111, 114, 105, 116, 121], [58, 109, 101, 116, 104, 111, 100, 32, 71, 69, 84], [58, 109, 101, 116, 104, 111, 100, 32, 80, 79, 83, 84], [58, 112, 97, 116, 104, 32, 47], [58, 112, 97, 116, 104, 32, 47, 105, 110, 100, 101, 120, 46, 104, 116, 109, 108], [58, 115, 99, 104, 101, 109, 101, 32, 104, 116, 116, 112], [58, 115, 99, 104, 101, 109, 101, 32, 104, 116, 116, 112, 115], [58, 115, 116, 97, 116, 117, 115, 32, 50, 48, 48], [58, 115, 116, 97, 116, 117, 115, 32, 50, 48, 52], [58, 115, 116, 97, 116, 117, 115, 32, 50, 48, 54], [58, 115, 116, 97, 116, 117, 115, 32, 51, 48, 52], [58, 115, 116, 97, 116, 117, 115, 32, 52, 48, 48], [58, 115, 116, 97, 116, 117, 115, 32, 52, 48, 52], [58, 115, 116, 97, 116, 117, 115, 32, 53, 48, 48], [97, 99, 99, 101, 112, 116, 45, 99, 104, 97, 114, 115, 101, 116], [97, 99, 99, 101, 112, 116, 45, 101, 110, 99, 111, 100, 105, 110, 103, 32, 103, 122, 105, 112, 44, 32, 100, 101, 102, 108, 97, 116, 101], [97, 99, 99, 101, 112, 116, 45, 108, 97, 110, 103, 117, 97, 103, 101], [97, 99, 99, 101, 112, 116, 45, 114, 97, 110, 103, 101, 115], [97, 99, 99, 101, 112, 116], [97, 99, 99, 101, 115, 115, 45, 99, 111, 110, 116, 114, 111, 108, 45, 97, 108, 108, 111, 119, 45, 111, 114, 105, 103, 105, 110], [97, 103, 101], [97, 108, 108, 111, 119], [97, 117, 116, 104, 111, 114, 105, 122, 97, 116, 105, 111, 110], [99, 97, 99, 104, 101, 45, 99, 111, 110, 116, 114, 111, 108], [99, 111, 110, 116, 101, 110, 116, 45, 100, 105, 115, 112, 111, 115, 105, 116, 105, 111, 110], [99, 111, 110, 116, 101, 110, 116, 45, 101, 110, 99, 111, 100, 105, 110, 103], [99, 111, 110, 116, 101, 110, 116, 45, 108, 97, 110, 103, 117, 97, 103, 101], [99, 111, 110, 116, 101, 110, 116, 45, 108, 101, 110, 103, 116, 104], [99, 111, 110, 116, 101, 110, 116, 45, 108, 111, 99, 97, 116, 105, 111, 110], [99, 111, 110, 116, 101, 110, 116, 45, 114, 97, 110, 103, 101], [99, 111, 110, 116, 101, 110, 116, 45, 116, 121, 112, 101], [99, 111, 111, 107, 105, 101], [100, 97, 116, 101], [101, 116, 97, 103], [101, 120, 112, 101, 99, 116], [101, 120, 112, 105, 114, 101, 115], [102, 114, 111, 109], [104, 111, 115, 116], [105, 102, 45, 109, 97, 116, 99, 104], [105, 102, 45, 109, 111, 100, 105, 102, 105, 101, 100, 45, 115, 105, 110, 99, 101], [105, 102, 45, 110, 111, 110, 101, 45, 109, 97, 116, 99, 104], [105, 102, 45, 114, 97, 110, 103, 101], [105, 102, 45, 117, 110, 109, 111, 100, 105, 102, 105, 101, 100, 45, 115, 105, 110, 99, 101], [108, 97, 115, 116, 45, 109, 111, 100, 105, 102, 105, 101, 100], [108, 105, 110, 107], [108, 111, 99, 97, 116, 105, 111, 110], [109, 97, 120, 45, 102, 111, 114, 119, 97, 114, 100, 115], [112, 114, 111, 120, 121, 45, 97, 117, 116, 104, 101, 110, 116, 105, 99, 97, 116, 101], [112, 114, 111, 120, 121, 45, 97, 117, 116, 104, 111, 114, 105, 122, 97, 116, 105, 111, 110], [114, 97, 110, 103, 101], [114, 101, 102, 101, 114, 101, 114], [114, 101, 102, 114, 101, 115, 104], [114, 101, 116, 114, 121, 45, 97, 102, 116, 101, 114], [115, 101, 114, 118, 101, 114], [115, 101, 116, 45, 99, 111, 111, 107, 105, 101], [115, 116, 114, 105, 99, 116, 45, 116, 114, 97, 110, 115, 112, 111, 114, 116, 45, 115, 101, 99, 117, 114, 105, 116, 121], [116, 114, 97, 110, 115, 102, 101, 114, 45, 101, 110, 99, 111, 100, 105, 110, 103], [117, 115, 101, 114, 45, 97, 103, 101, 110, 116], [118, 97, 114, 121], [118, 105, 97], [119, 119, 119, 45, 97, 117, 116, 104, 101, 110, 116, 105, 99, 97, 116, 101]]
def pairsT : List (List UInt8 × List UInt8) := [([58, 97, 117, 116, 104, 111, 114, 105, 116, 121], []), ([58, 109, 101, 116, 104, 111, 100], [71, 69, 84]), ([58, 109, 101, 116, 104, 111, 100], [80, 79, 83, 84]), ([58, 112, 97, 116, 104], [47]), ([58, 112, 97, 116, 104], [47, 105, 110, 100, 101, 120, 46, 104, 116, 109, 108]), ([58, 115, 99, 104, 101, 109, 101], [104, 116, 116, 112]), ([58, 115, 99, 104, 101, 109, 101], [104, 116, 116, 112, 115]), ([58, 115, 116, 97, 116, 117, 115], [50, 48, 48]), ([58, 115, 116, 97, 116, 117, 115], [50, 48, 52]), ([58, 115, 116, 97, 116, 117, 115], [50, 48, 54]), ([58, 115, 116, 97, 116, 117, 115], [51, 48, 52]), ([58, 115, 116, 97, 116, 117, 115], [52, 48, 48]), ([58, 115, 116, 97, 116, 117, 115], [52, 48, 52]), ([58, 115, 116, 97, 116, 117, 115], [53, 48, 48]), ([97, 99, 99, 101, 112, 116, 45, 99, 104, 97, 114, 115, 101, 116], []), ([97, 99, 99, 101, 112, 116, 45, 101, 110, 99, 111, 100, 105, 110, 103], [103, 122, 105, 112, 44, 32, 100, 101, 102, 108, 97, 116, 101]), ([97, 99, 99, 101, 112, 116, 45, 108, 97, 110, 103, 117, 97, 103, 101], []), ([97, 99, 99, 101, 112, 116, 45, 114, 97, 110, 103, 101, 115], []), ([97, 99, 99, 101, 112, 116], []), ([97, 99, 99, 101, 115, 115, 45, 99, 111, 110, 116, 114, 111, 108, 45, 97, 108, 108, 111, 119, 45, 111, 114, 105, 103, 105, 110], []), ([97, 103, 101], []), ([97, 108, 108, 111, 119], []), ([97, 117, 116, 104, 111, 114, 105, 122, 97, 116, 105, 111, 110], []), ([99, 97, 99, 104, 101, 45, 99, 111, 110, 116, 114, 111, 108], []), ([99, 111, 110, 116, 101, 110, 116, 45, 100, 105, 115, 112, 111, 115, 105, 116, 105, 111, 110], []), ([99, 111, 110, 116, 101, 110, 116, 45, 101, 110, 99, 111, 100, 105, 110, 103], []), ([99, 111, 110, 116, 101, 110, 116, 45, 108, 97, 110, 103, 117, 97, 103, 101], []), ([99, 111, 110, 116, 101, 110, 116, 45, 108, 101, 110, 103, 116, 104], []), ([99, 111, 110, 116, 101, 110, 116, 45, 108, 111, 99, 97, 116, 105, 111, 110], []), ([99, 111, 110, 116, 101, 110, 116, 45, 114, 97, 110, 103, 101], []), ([99, 111, 110, 116, 101, 110, 116, 45, 116, 121, 112, 101], []), ([99, 111, 111, 107, 105, 101], []), ([100, 97, 116, 101], []), ([101, 116, 97, 103], []), ([101, 120, 112, 101, 99, 116], []), ([101, 120, 112, 105, 114, 101, 115], []), ([102, 114, 111, 109], []), ([104, 111, 115, 116], []), ([105, 102, 45, 109, 97, 116, 99, 104], []), ([105, 102, 45, 109, 111, 100, 105, 102, 105, 101, 100, 45, 115, 105, 110, 99, 101], []), ([105, 102, 45, 110, 111, 110, 101, 45, 109, 97, 116, 99, 104], []), ([105, 102, 45, 114, 97, 110, 103, 101], []), ([105, 102, 45, 117, 110, 109, 111, 100, 105, 102, 105, 101, 100, 45, 115, 105, 110, 99, 101], []), ([108, 97, 115, 116, 45, 109, 111, 100, 105, 102, 105, 101, 100], []), ([108, 105, 110, 107], []), ([108, 111, 99, 97, 116, 105, 111, 110], []), ([109, 97, 120, 45, 102, 111, 114, 119, 97, 114, 100, 115], []), ([112, 114, 111, 120, 121, 45, 97, 117, 116, 104, 101, 110, 116, 105, 99, 97, 116, 101], []), ([112, 114, 111, 120, 121, 45, 97, 117, 116, 104, 111, 114, 105, 122, 97, 116, 105, 111, 110], []), ([114, 97, 110, 103, 101], []), ([114, 101, 102, 101, 114, 101, 114], []), ([114, 101, 102, 114, 101, 115, 104], []), ([114, 101, 116, 114, 121, 45, 97, 102, 116, 101, 114], []), ([115, 101, 114, 118, 101, 114], []), ([115, 101, 116, 45, 99, 111, 111, 107, 105, 101], []), ([115, 116, 114, 105, 99, 116, 45, 116, 114, 97, 110, 115, 112, 111, 114, 116, 45, 115, 101, 99, 117, 114, 105, 116, 121], []), ([116, 114, 97, 110, 115, 102, 101, 114, 45, 101, 110, 99, 111, 100, 105, 110, 103], []), ([117, 115, 101, 114, 45, 97, 103, 101, 110, 116], []), ([118, 97, 114, 121], []), ([118, 105, 97], []), ([119, 119, 119, 45, 97, 117, 116, 104, 101, 110, 116, 105, 99, 97, 116, 101], [])]
set_option maxRecDepth 100000 in
theorem cntT : Lib.countB ⟨txT.toArray⟩ ⟨#[10]⟩ = 60 := by kernel_rfl
set_option maxRecDepth 100000 in
theorem splK : Lib.splitK [10] 0 60 txT = piecesT := by kernel_rfl
theorem map_back (l : List ByteArray) (q : List (List UInt8)) (h : l.map (·.data.toList) = q) : l = q.map (fun p => ⟨p.toArray⟩) := by
  subst h
  rw [List.map_map]
  exact (List.map_id'' (fun b => by cases b; rfl) l).symm
theorem splT : Lib.splitB ⟨#[10]⟩ 0 60 ⟨txT.toArray⟩ = piecesT.map (fun p => ⟨p.toArray⟩) :=
  map_back _ _ ((Lib.splitB_data ⟨#[10]⟩ 0 60 ⟨txT.toArray⟩).trans splK)
set_option maxRecDepth 100000 in
theorem cutT : piecesT.map (fun p => ((Lib.cut p [32]).1, (Lib.cut p [32]).2.1)) = pairsT := by kernel_rfl
theorem lenT : piecesT.length = 61 := by kernel_rfl
end Go.Proofs.YtflmgjidnclegaaDoor.Tab
/-
  The walk of the table that stands.
-/
namespace Go.Proofs.YtflmgjidnclegaaDoor.Tab
open Go.RowKit
noncomputable def linesV : Array Value := (piecesT.map (fun p => Value.string ⟨p.toArray⟩)).toArray
theorem split_any (m : Int) (w : World) (hm : w.cell? ⟨6, 0, none⟩ = some (.int .i64 m)) (s : ByteArray) (hs : s = ⟨txT.toArray⟩) :
    Calls Tryd.prog 74 #[.string s, .string ⟨#[10]⟩] w fun e w' => e = .returned (.slice (some ⟨w.heap.size, 0, none⟩) 61 61) ∧ w' = w.alloc (.cells linesV 9) := by
  subst hs
  refine (Tryd.strings_Split ⟨txT.toArray⟩ ⟨#[10]⟩ m w (of_decide_eq_true (by kernel_rfl)) hm (by decide)).mono ?_
  rintro e w' ⟨he, hw⟩
  rw [cntT] at he hw
  rw [splT, List.map_map] at hw
  exact ⟨he, hw⟩
set_option maxRecDepth 100000 in
theorem stands_any (m : Int) (w : World) (hm : w.cell? ⟨6, 0, none⟩ = some (.int .i64 m)) :
    Calls Tryd.prog 53 #[] w fun e w' => e = .returned (.slice (some ⟨w.heap.size, 0, none⟩) 61 61) ∧ w' = w.alloc (.cells linesV 9) := by
  have HS := Lib.hid (split_any m w hm)
  go_enter Tryd.func53, Tryd.ntmps53
  go_wp2_with fail
  refine (HS.out _ (by kernel_rfl)).mono ?_
  rintro e w' ⟨rfl, rfl⟩
  go_wp2_with fail
  go_ret
  exact ⟨rfl, rfl⟩
end Go.Proofs.YtflmgjidnclegaaDoor.Tab
/-
  The walk of table.Static.
-/
namespace Go.Proofs.YtflmgjidnclegaaDoor.Tab
open Go.RowKit
theorem piece_short : piecesT.all (fun p => decide (p.length < 100)) = true := by kernel_rfl
theorem line_get (k : Nat) (hk : k < 61) : ∃ p, piecesT[k]? = some p ∧ p.length < 100 ∧ linesV[k]? = some (.string ⟨p.toArray⟩) ∧ pairsT[k]? = some ((Lib.cut p [32]).1, (Lib.cut p [32]).2.1) := by
  have hk' : k < piecesT.length := by rw [lenT]; exact hk
  refine ⟨piecesT[k], List.getElem?_eq_getElem hk', of_decide_eq_true (List.all_eq_true.1 piece_short _ (List.getElem_mem hk')), ?_, ?_⟩
  · unfold linesV
    rw [List.getElem?_toArray, List.getElem?_map, List.getElem?_eq_getElem hk']
    rfl
  · rw [← cutT, List.getElem?_map, List.getElem?_eq_getElem hk']
    rfl
/-- what a function that answers a header and a Bool hands back -/
theorem hdr_ret {f : Func} {p u : Tmp} {w' : World} {a : Act} {b : Nat} {x y z v : Value} {R : Ending → World → Prop} (hf : f.results = #[.cell p 23, .tmp u]) (hd : a.defers = []) (hp : a.tmps.getD p undef = .pointer (some ⟨b, 0, none⟩)) (hu : a.tmps.getD u undef = v)
    (hb : Blk w' b 23 #[x, y, z]) (h : R (.returned (.tuple #[.agg #[x, y, z], v])) w') : bodyPost Tryd.prog f R .ret a w' :=
  bodyPost_ret (by
    rw [results_cell_tmp hf, hp, hu]
    simp [asAddr, Result.andThen, run_loadVar_row w' b 23 23 #[x, y, z] (0, 0) _ hb Tryd.underlying23 rfl (by kernel_rfl)]) hd h
set_option maxRecDepth 100000 in
theorem static_no (i : Int) (hi : i < 1 ∨ 61 < i) (w : World) :
    Calls Tryd.prog 14 #[.int .i64 i] w fun e w' => e = .returned (.tuple #[.agg #[.string ByteArray.empty, .string ByteArray.empty, .bool false], .bool false]) ∧ Below w.heap.size w w' := by
  go_enter Tryd.func14, Tryd.ntmps14
  rcases hi with hi | hi
  · go_wp2_with fail
    exact hdr_ret rfl rfl rfl rfl (Blk.new _ _ _) ⟨rfl, (Below.refl _ _).alloc (Nat.le_refl _) _⟩
  · by_cases h1 : i < 1
    · omega
    · go_wp2_with fail
      exact hdr_ret rfl rfl rfl rfl (Blk.new _ _ _) ⟨rfl, (Below.refl _ _).alloc (Nat.le_refl _) _⟩
end Go.Proofs.YtflmgjidnclegaaDoor.Tab
/-
  The walk of table.Static at an index that stands.
-/
namespace Go.Proofs.YtflmgjidnclegaaDoor.Tab
open Go.RowKit
set_option maxRecDepth 100000 in
theorem static_yes (m : Int) (k : Nat) (hk : k < 61) (n v : List UInt8) (hp : pairsT[k]? = some (n, v)) (w : World) (hm : w.cell? ⟨6, 0, none⟩ = some (.int .i64 m)) (hg : 6 < w.heap.size) :
    Calls Tryd.prog 14 #[.int .i64 ((k : Int) + 1)] w fun e w' => e = .returned (.tuple #[.agg #[.string ⟨n.toArray⟩, .string ⟨v.toArray⟩, .bool false], .bool true]) ∧ Below w.heap.size w w' := by
  obtain ⟨p, hp1, hp2, hp3, hp4⟩ := line_get k hk
  have e : n = (Lib.cut p [32]).1 ∧ v = (Lib.cut p [32]).2.1 := by rw [hp] at hp4; injection hp4 with h; injection h with h1 h2; exact ⟨h1, h2⟩
  have hB1 : Below w.heap.size w (w.alloc (.cells #[.string ByteArray.empty, .string ByteArray.empty, .bool false] 23)) := (Below.refl _ _).alloc (Nat.le_refl _) _
  have HS := Lib.hid (stands_any m (w.alloc (.cells #[.string ByteArray.empty, .string ByteArray.empty, .bool false] 23)) ((hB1.cell hg).trans hm))
  have hB2 := hB1.alloc hB1.size (.cells linesV 9)
  have HC0 := (Tryd.strings_Cut ⟨p.toArray⟩ ⟨#[32]⟩ m ((w.alloc (.cells #[.string ByteArray.empty, .string ByteArray.empty, .bool false] 23)).alloc (.cells linesV 9)) (by show p.toArray.size < _; rw [List.size_toArray]; omega) ((hB2.cell hg).trans hm))
  have c0 : ((w.alloc (.cells #[.string ByteArray.empty, .string ByteArray.empty, .bool false] 23)).alloc (.cells linesV 9)).cell? ⟨w.heap.size + 1, k, none⟩ = some (.string ⟨p.toArray⟩) := by
    rw [show w.heap.size + 1 = (w.alloc (.cells #[.string ByteArray.empty, .string ByteArray.empty, .bool false] 23)).heap.size by simp, World.cell?_alloc_at _ _ _ _ rfl]
    exact hp3
  rw [show (⟨p.toArray⟩ : ByteArray).data.toList = p by simp, show (⟨#[32]⟩ : ByteArray).data.toList = [32] from rfl, ← e.1, ← e.2] at HC0
  generalize (Lib.cut p [32]).2.2 = bb at HC0
  clear e hp hp1 hp3 hp4 hm
  generalize linesV = LV at HS HC0 c0 hB2
  generalize (⟨p.toArray⟩ : ByteArray) = P at HC0 c0
  have HC := Lib.hid HC0
  have HB2 := Lib.hid hB2
  clear HC0 hB2 hB1 hp2
  go_enter Tryd.func14, Tryd.ntmps14
  go_wp2_with fail
  refine HS.out.mono ?_
  rintro e w' ⟨rfl, rfl⟩
  go_wp2_with fail
  refine HC.out.mono ?_
  rintro e w' ⟨rfl, q, rfl⟩
  go_wp2_with fail
  have ka := (Blk.new w 23 #[.string ByteArray.empty, .string ByteArray.empty, .bool false]).alloc (.cells LV 9)
  have kb := ka.below (below_drewN (Below.refl _ _) q) ka.lt
  have kc := ((kb.set_ 0 (.string ⟨n.toArray⟩)).set_ 1 (.string ⟨v.toArray⟩)).set_ 2 (.bool false)
  have hb := below_drewN HB2.out q
  have hb3 := ((hb.setCell (p := ⟨w.heap.size, 0, none⟩) (Nat.le_refl _) (.string ⟨n.toArray⟩)).setCell (p := ⟨w.heap.size, 1, none⟩) (Nat.le_refl _) (.string ⟨v.toArray⟩)).setCell (p := ⟨w.heap.size, 2, none⟩) (Nat.le_refl _) (.bool false)
  exact hdr_ret rfl rfl rfl rfl kc ⟨rfl, hb3⟩
end Go.Proofs.YtflmgjidnclegaaDoor.Tab
/-
  The walk of parleyref.SameHeader at twice the same header.
-/
namespace Go.Proofs.YtflmgjidnclegaaDoor.Tab
open Go.RowKit
set_option maxRecDepth 100000 in
theorem same_header_any (n v : ByteArray) (b : Bool) (w : World) :
    Calls Tryd.prog 16 #[.agg #[.string n, .string v, .bool b], .agg #[.string n, .string v, .bool b]] w fun e w' => e = .returned (.bool true) ∧ Below w.heap.size w w' := by
  go_enter Tryd.func16, Tryd.ntmps16
  go_wp2_with fail
  go_ret
  exact ⟨by simp, ((Below.refl _ _).alloc (Nat.le_refl _) _).alloc (by simp) _⟩
end Go.Proofs.YtflmgjidnclegaaDoor.Tab
