/-
  Blocks among the arguments; the walk of chapter 4's all.
-/
import Derived.Test.YtflmgjidnclegaaDoorHpkLightM
namespace Go.Proofs.YtflmgjidnclegaaDoor.Hpk
open Go.RowKit
open Tab (Hd hsz tot Hn Tbl HnAt hncs)
/-- a list that is to be encoded, and the size ahead of it -/
structure Bl where
  size : Int
  A : Option Addr
  cap : Nat
  L : List Hn
def BlAt (w : World) (A : Option Addr) (l : List Bl) : Prop := ∀ (i : Nat) (x : Bl), l[i]? = some x → ∃ b off, A = some ⟨b, off, none⟩ ∧ b < w.heap.size ∧
  w.cell? ⟨b, off + i * 2, none⟩ = some (.int .i64 x.size) ∧ w.cell? ⟨b, off + i * 2 + 1, none⟩ = some (.slice x.A x.L.length x.cap) ∧ HnAt w x.A x.L
theorem BlAt.below {w w' : World} {A : Option Addr} {l : List Bl} (h : BlAt w A l) (hb : Below w.heap.size w w') : BlAt w' A l := by
  intro i x hx
  obtain ⟨b, off, hA, hlt, c0, c1, hn⟩ := h i x hx
  have k : ∀ o v, w.cell? ⟨b, o, none⟩ = some v → w'.cell? ⟨b, o, none⟩ = some v := fun o v hv => (Below.cell hb (p := ⟨b, o, none⟩) hlt).trans hv
  exact ⟨b, off, hA, Nat.lt_of_lt_of_le hlt hb.size, k _ _ c0, k _ _ c1, hn.below hb⟩
/-- where a list lies, that is not empty -/
theorem hnAt_lt {w : World} {A : Option Addr} {L : List Hn} (h : HnAt w A L) : ∀ ad, A = some ad → 0 < L.length → ad.block < w.heap.size := by
  intro ad e h0
  obtain ⟨b, off, hA, hlt, _⟩ := h 0 _ (List.getElem?_eq_getElem h0)
  rw [hA] at e
  injection e with e
  subst e
  exact hlt
def AllEnd (w : World) (l : List Bl) (e : Ending) (w' : World) : Prop := ∃ b : Bool, e = .returned (.bool b) ∧ Below w.heap.size w w' ∧ (b = true → l.length ≤ 20 ∧ ∀ x ∈ l, x.L.length ≤ 60)
set_option maxRecDepth 100000 in
set_option maxHeartbeats 1000000 in
theorem all_any (A : Option Addr) (cap : Nat) (l : List Bl) (hl : l.length ≤ 1048576) (hL : ∀ x ∈ l, x.L.length ≤ 1048576) (w : World) (h : BlAt w A l) :
    Calls Tryd.prog 45 #[.slice A l.length cap] w fun e w' => AllEnd w l e w' := by
  have HA := Lib.hid h
  have HL := Lib.hid hL
  clear h hL
  go_enter Tryd.func45, Tryd.ntmps45
  by_cases c20 : 20 < l.length
  · have hd : decide ((l.length : Int) > 20) = true := decide_eq_true (by omega)
    go_wp2_with fail
    go_ret
    exact ⟨false, rfl, Below.refl _ _, fun h => by cases h⟩
  have hd : decide ((l.length : Int) > 20) = false := decide_eq_false (by omega)
  go_wp2_with fail
  clear hd
  go_loopw [3] (fun i wr => ∃ k : Nat, i = .int .i64 (k : Int) ∧ k ≤ l.length ∧ (∀ j x, j < k → l[j]? = some x → x.L.length ≤ 60) ∧ Below w.heap.size w wr) (fun i _ => l.length - (intOf i).toNat)
  case atStart => exact ⟨0, rfl, Nat.zero_le _, fun j x hj => by omega, Below.refl _ _⟩
  case round =>
    obtain ⟨k, rfl, hk, hp, hb⟩ := hrel
    have HB := Lib.hid hb
    have HP := Lib.hid hp
    by_cases hlt : k < l.length
    · obtain ⟨x, hx⟩ : ∃ x, l[k]? = some x := ⟨_, List.getElem?_eq_getElem hlt⟩
      obtain ⟨b0, off, hAe, hbl, c0, c1, hn⟩ := (HA.out.below hb) k x hx
      subst hAe
      have hxl := HL.out x (List.mem_of_getElem? hx)
      have HLT := Lib.hid (light_any x.A x.cap x.L (by omega) wr hn)
      have HX := Lib.hid hx
      have hdk : decide ((k : Int) < (l.length : Int)) = true := decide_eq_true (by omega)
      clear hb hp hx hn c0
      go_wp2_with fail
      refine HLT.out.mono ?_
      rintro e w2 ⟨b, rfl, hb2, h60⟩
      have HB2 := Lib.hid (HB.out.trans (hb2.mono HB.out.size))
      have H60 := Lib.hid h60
      clear hb2 HLT c1 h60
      cases b with
      | false =>
        go_wp2_with fail
        go_ret
        exact ⟨false, rfl, HB2.out, fun h => by cases h⟩
      | true =>
        go_wp2_with fail
        go_roundw
        case rel =>
          refine ⟨k + 1, by go_num, by omega, fun j y hj hy => ?_, HB2.out⟩
          by_cases e : j = k
          · subst e
            obtain rfl : x = y := by have := HX.out; rw [this] at hy; exact Option.some.inj hy
            exact H60.out trivial
          · exact HP.out j y (by omega) hy
        case measure => simp [intOf]; omega
    · have hdk : decide ((k : Int) < (l.length : Int)) = false := decide_eq_false (by omega)
      clear hb hp
      go_wp2_with fail
      go_ret
      refine ⟨true, rfl, HB.out, fun _ => ⟨by omega, fun x hx => ?_⟩⟩
      obtain ⟨j, hj, rfl⟩ := List.getElem_of_mem hx
      exact HP.out j _ (by omega) (List.getElem?_eq_getElem hj)
end Go.Proofs.YtflmgjidnclegaaDoor.Hpk
