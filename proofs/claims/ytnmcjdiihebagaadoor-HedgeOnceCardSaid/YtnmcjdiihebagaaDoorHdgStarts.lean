/-
  The hedge's starts and Tick.
-/
import Derived.Test.YtnmcjdiihebagaaDoorHdgStart
namespace Go.Proofs.YtnmcjdiihebagaaDoor.Hdg
open Go.RowKit
open Pol (intsV IntsAt)
section
variable {w W W' : World} {B g : Nat} {rb : Option Nat} {cs cs' : Array Value} {rv rv' : Value} {run run' : List Int}
theorem HMid.trans (h : HMid w W B g rb cs rv run) (k : HMid W W' B g rv.ownBlock cs' rv' run') : HMid w W' B g rb cs' rv' run' :=
  ⟨k.kg, k.kr, h.up.trans k.up (fun i hi => by
    rcases hi with e | e
    · exact Or.inl (Or.inl e)
    · exact (h.fresh i e).elim (fun h => Or.inl (Or.inr h)) Or.inr), k.hB, fun b hb => by
    rcases k.fresh b hb with e | e
    · exact h.fresh b e
    · exact Or.inr (Nat.le_trans h.up.size e)⟩
theorem own_own_ne {w : World} {base base' : Nat} {e e' : TypeId} {size size' n n' : Nat} {v v' : Value} {xs xs' : List Value} (h : w.ownsRow base e size v n xs) (h' : w.ownsRow base' e' size' v' n' xs') (hne : e ≠ e') {b : Nat} (hb : v.ownBlock = some b) : v'.ownBlock ≠ some b := by
  rcases h'.2 with ⟨rfl, _⟩ | ⟨g, cap, cur, rfl, _, hh, _⟩
  · simp [Value.ownBlock]
  · intro e2
    have : g = b := by simpa [Value.ownBlock] using e2
    subst this
    exact own_blk_ne h (cs := cur) hh hne hb
/-- another row has been written -/
theorem HMid.other (h : HMid w W B g rb cs rv run) {row : Option Nat} (hg : W.grownBy W' row) (h1 : row ≠ some g) (h2 : ∀ b, row = some b → rv.ownBlock ≠ some b ∧ w.heap.size ≤ b) : HMid w W' B g rb cs rv run :=
  ⟨h.kg.grown hg (fun e => h1 e.symm), h.kr.kept hg (by
    rcases hr : rv.ownBlock with _ | b
    · exact Or.inl rfl
    · exact Or.inr (fun e => (h2 b e.symm).1 hr)), h.up.grown hg (fun b e => Or.inr (h2 b e).2), Nat.le_trans h.hB hg.size, h.fresh⟩
end
/-- how long a slice value is -/
def slen : Value → Nat
  | .slice _ n _ => n
  | _ => 0
theorem slen_own {w : World} {base : Nat} {e : TypeId} {size n : Nat} {v : Value} {xs : List Value} (h : w.ownsRow base e size v n xs) : slen v = n := by
  rcases h.2 with ⟨rfl, rfl⟩ | ⟨gg, cap, cur, rfl, _⟩
  · rfl
  · rfl
/-- the tries j new ones of which have started -/
def newTries (started : Int) (j : Nat) : List Int := (List.range j).map fun (i : Nat) => started + (i : Int)
def newEvs (started now : Int) (j : Nat) : List Ev := (List.range j).map fun (i : Nat) => ⟨1, started + (i : Int), 0, now⟩
theorem newTries_succ (started : Int) (j : Nat) : newTries started (j + 1) = newTries started j ++ [started + (j : Int)] := by simp [newTries, List.range_succ]
theorem newEvs_succ (started now : Int) (j : Nat) : newEvs started now (j + 1) = newEvs started now j ++ [⟨1, started + (j : Int), 0, now⟩] := by simp [newEvs, List.range_succ]
theorem newTries_length (started : Int) (j : Nat) : (newTries started j).length = j := by simp [newTries]
theorem newEvs_length (started now : Int) (j : Nat) : (newEvs started now j).length = j := by simp [newEvs]
def dueAt (D now due : Int) (j : Nat) : Int := if j = 0 then due else now + D
def nxAt (T started : Int) (nx : Bool) (j : Nat) : Bool := if j = 0 then nx else decide (started + (j : Int) < T)
/-- j tries have started that were due -/
structure Going (T D now started due : Int) (nx : Bool) (j : Nat) : Prop where
  first : 0 < j → nx = true ∧ due ≤ now
  more : 1 < j → D ≤ 0
  lim : 0 < j → started + (j : Int) ≤ T
/-- .. and no more is due -/
structure Started (T D now started due : Int) (nx : Bool) (j : Nat) : Prop where
  going : Going T D now started due nx j
  stop : nxAt T started nx j = false ∨ now < dueAt D now due j
theorem Going.next {T D now started due : Int} {nx : Bool} {j : Nat} (h : Going T D now started due nx j) (hnx : nx = true → started < T) (hq : nxAt T started nx j = true) (hd : dueAt D now due j ≤ now) : Going T D now started due nx (j + 1) := by
  unfold nxAt at hq
  unfold dueAt at hd
  rcases Nat.eq_zero_or_pos j with rfl | hj
  · simp only [if_true] at hq hd
    exact ⟨fun _ => ⟨hq, hd⟩, fun h => absurd h (by omega), fun _ => by have := hnx hq; omega⟩
  · rw [if_neg (by omega)] at hq hd
    have hlt := of_decide_eq_true hq
    exact ⟨fun _ => h.first hj, fun _ => by omega, fun _ => by omega⟩
set_option maxRecDepth 100000 in
set_option maxHeartbeats 4000000 in
theorem starts_any (B g : Nat) (T D : Int) (fv : Value) (now started : Int) (nx : Bool) (due : Int) (rv : Value) (run : List Int) (ans : Int) (done : Bool) (code : Int) (w : World) (h : Blk w g 91 (hcC T D fv (.pointer none) now started (nxV g nx) due rv ans done code))
    (hr : w.ownsRow B 3 1 rv run.length (intsV run)) (hB : B ≤ w.heap.size) (hl : run.length ≤ 500) (hst : 0 ≤ started ∧ started ≤ 5) (hT : T ≤ 5) (hnx : nx = true → started < T) (hD : 0 ≤ D ∧ D ≤ 1000000) (hnow : 0 ≤ now ∧ now ≤ 4503599627370496) :
    Calls Tryd.prog 41 #[.pointer (some ⟨g, 0, none⟩)] w fun e w' => ∃ j rv' v, e = .returned v ∧ Started T D now started due nx j ∧ w'.ownsRow w.heap.size 56 4 v j (evV (newEvs started now j)) ∧
      HMid w w' B g rv.ownBlock (hcC T D fv (.pointer none) now (started + (j : Int)) (nxV g (nxAt T started nx j)) (dueAt D now due j) rv' ans done code) rv' (run ++ newTries started j) := by
  have hM := HMid.start h hr hB
  have HM := Lib.hid hM
  clear h hr hM
  go_enter Tryd.func41, Tryd.ntmps41
  go_wp2_with fail
  go_loopw [3] (fun l wr => ∃ (j : Nat) (rv' : Value), j ≤ 5 ∧ slen l = j ∧ Going T D now started due nx j ∧ wr.ownsRow w.heap.size 56 4 l j (evV (newEvs started now j)) ∧
      HMid w wr B g rv.ownBlock (hcC T D fv (.pointer none) now (started + (j : Int)) (nxV g (nxAt T started nx j)) (dueAt D now due j) rv' ans done code) rv' (run ++ newTries started j)) (fun l _ => 6 - slen l)
  case atStart =>
    refine ⟨0, rv, by omega, rfl, ⟨fun h => absurd h (by omega), fun h => absurd h (by omega), fun h => absurd h (by omega)⟩, World.ownsRow_nil _ _ _ _, ?_⟩
    have := HM.out
    simpa [newTries, nxAt, dueAt] using this
  case round =>
    obtain ⟨j, rv', hj5, hjl, hG, hev, hM⟩ := hrel
    obtain ⟨A, cap, hlv⟩ : ∃ A cap, u3 = .slice A j cap := by
      rcases hev.2 with ⟨e, e0⟩ | ⟨gg, cap, cur, e, _⟩
      · exact ⟨none, 0, by rw [e, e0]⟩
      · exact ⟨_, _, e⟩
    subst hlv
    obtain ⟨q, hq⟩ : ∃ q, nxAt T started nx j = q := ⟨_, rfl⟩
    obtain ⟨du, hdu⟩ : ∃ du, dueAt D now due j = du := ⟨_, rfl⟩
    have HX := Lib.hid hM
    rw [hq, hdu] at hM
    have HQ := Lib.hid hq
    have HDU := Lib.hid hdu
    have HG := Lib.hid hG
    have HEV := Lib.hid hev
    clear HM hq hdu hG hev hjl
    cases q with
    | false =>
      have c6 : wr.cell? ⟨g, 6, none⟩ = some (.func (.func 45) #[.pointer (some ⟨g, 0, none⟩)] #[]) := hM.kg.cell 6
      clear hM
      go_wp2_with fail
      refine (none_any g wr).mono ?_
      rintro e w' ⟨rfl, rfl⟩
      go_wp2_with fail
      go_ret
      exact ⟨j, rv', _, rfl, ⟨HG.out, Or.inl HQ.out⟩, HEV.out, HX.out⟩
    | true =>
      have c6 : wr.cell? ⟨g, 6, none⟩ = some (.func (.func 53) #[.pointer (some ⟨g, 0, none⟩)] #[]) := hM.kg.cell 6
      have c4 : wr.cell? ⟨g, 4, none⟩ = some (.int .i64 now) := hM.kg.cell 4
      have c3 : wr.cell? ⟨g, 3, none⟩ = some (.pointer none) := hM.kg.cell 3
      have hgl := hM.kg.lt
      have HM := Lib.hid hM
      clear hM
      go_wp2_with fail
      refine (some_any g _ _ _ _ _ _ _ _ _ _ _ _ wr HM.out.kg).mono ?_
      rintro e w' ⟨rfl, rfl⟩
      by_cases hdn : now < du
      · go_wp2_with fail
        go_ret
        exact ⟨j, rv', _, rfl, ⟨HG.out, Or.inr (by rw [HDU.out]; exact hdn)⟩, HEV.out, HX.out⟩
      · have hlr : (run ++ newTries started j).length ≤ 1000 := by rw [List.length_append, newTries_length]; omega
        have hGn := HG.out.next hnx HQ.out (by rw [HDU.out]; omega)
        have hj1 := hGn.lim (by omega)
        have hj4 : j ≤ 4 := by omega
        have ST := start_any B g T D fv (.pointer none) now (started + (j : Int)) _ du rv' (run ++ newTries started j) ans done code wr HM.out.kg HM.out.kr HM.out.hB hlr (by omega) hD hnow
        have HST := Lib.hid ST
        have HGN := Lib.hid hGn
        clear ST hGn hlr hj1
        go_wp2_with fail
        refine HST.out.mono ?_
        rintro e w5 ⟨rv5, b5, rfl, hb5, he5, hM5⟩
        have hl5 := hM5.up.own HEV.out (fun b hb hF => by
          rcases hF with e | e
          · exact own_blk_ne HEV.out HM.out.kg (by decide) (by rw [← e]; exact hb)
          · exact own_own_ne HEV.out HM.out.kr (by decide) hb e)
        have hM6 := HX.out.trans hM5
        have hR5 := Reads.of_own he5
        have hone := evV_one [⟨1, started + (j : Int), 0, now⟩]
        have hbs : w.heap.size ≤ w5.heap.size := hM6.up.size
        obtain ⟨i, hi, hi0, hi1, hi2⟩ := info_parts (P := Tryd.prog) (e := 56) (z := .agg #[.int .i64 0, .int .i64 0, .int .i64 0, .int .i64 0]) (size := 4) (bytes := 32) (by kernel_rfl)
        have HI := Lib.hid hi
        have HL5 := Lib.hid hl5
        have HR5 := Lib.hid hR5
        have HON := Lib.hid hone
        have HM6 := Lib.hid hM6
        have HBS := Lib.hid hbs
        clear hi hl5 hR5 hone hM6 hM5 he5 HST c6 c4 c3 HM HX hbs hgl
        go_wp2_with (refine wpList_append_any _ rfl (.tmp 44) (.tmp 46) 51 rfl w.heap.size 56 i (.agg #[.int .i64 0, .int .i64 0, .int .i64 0, .int .i64 0]) 4 32 Tryd.underlying51 HI.out hi0 hi1 hi2 rfl (by decide) _ j (evV (newEvs started now j)) rfl HL5.out w5.heap.size (some ⟨b5, 0, none⟩) 1 1 (evV [⟨1, started + (j : Int), 0, now⟩]) rfl HR5.out HON.out (by unfold maxLen; omega) (by omega) HBS.out ?_; intro v6 w6 ho6 hg6 hat6)
        have hE6 : w6.ownsRow w.heap.size 56 4 v6 (j + 1) (evV (newEvs started now (j + 1))) := by rw [newEvs_succ, evV_append]; exact ho6
        have hs6 := slen_own ho6
        have hM7 : HMid w w6 B g rv.ownBlock (hcC T D fv (.pointer none) now (started + ((j + 1 : Nat) : Int)) (nxV g (nxAt T started nx (j + 1))) (dueAt D now due (j + 1)) rv5 ans done code) rv5 (run ++ newTries started (j + 1)) := by
          have h := HM6.out.other hg6 (own_blk_ne HL5.out HM6.out.kg (by decide)) (fun b hb => ⟨own_own_ne HL5.out HM6.out.kr (by decide) hb, (HL5.out.lt b hb).1⟩)
          unfold nxAt dueAt
          rw [if_neg (Nat.succ_ne_zero j), if_neg (Nat.succ_ne_zero j), newTries_succ, ← List.append_assoc, show started + ((j + 1 : Nat) : Int) = started + (j : Int) + 1 by omega]
          exact h
        have HM7 := Lib.hid hM7
        have HE6 := Lib.hid hE6
        clear hM7 hE6 ho6 hg6 hat6 HM6 HL5 HR5 HON HI
        go_roundw
        case rel => exact ⟨j + 1, rv5, by omega, hs6, HGN.out, HE6.out, HM7.out⟩
        case measure => rw [hs6]; simp [slen]; omega
end Go.Proofs.YtnmcjdiihebagaaDoor.Hdg
