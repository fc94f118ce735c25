/-
  The law HedgeTicks in plain words; where its walk stands.
-/
import Derived.Test.YtnmcjdiihebagaaDoorHdgLShut
namespace Go.Proofs.YtnmcjdiihebagaaDoor.Hdg
open Go.RowKit
open Pol (intsV IntsAt codeOk)
/-- the last start, or the first try's -/
def lastOf (S : List Int) : Int := if S.length = 0 then 0 else S.getD (S.length - 1) 0
/-- a call whose tries behind the first started at S -/
structure Tr (T D now : Int) (S : List Int) (nx : Bool) (due : Int) : Prop where
  lim : (S.length : Int) + 1 ≤ T
  nxe : nx = decide ((S.length : Int) + 1 < T)
  duee : due = lastOf S + D
  ge : ∀ i : Nat, i < S.length → ((i : Int) + 1) * D ≤ S.getD i 0
  chain : ∀ i : Nat, i + 1 < S.length → S.getD i 0 + D ≤ S.getD (i + 1) 0
  le : ∀ i : Nat, i < S.length → S.getD i 0 ≤ now
theorem getD_app_left (S R : List Int) (i : Nat) (h : i < S.length) : (S ++ R).getD i 0 = S.getD i 0 := by simp [List.getD, List.getElem?_append_left h]
theorem getD_app_right (S : List Int) (m : Int) (i : Nat) : (S ++ [m]).getD S.length 0 = m ∧ (i = S.length → (S ++ [m]).getD i 0 = m) := by
  have : (S ++ [m]).getD S.length 0 = m := by simp [List.getD]
  exact ⟨this, fun h => by rw [h]; exact this⟩
theorem lastOf_snoc (S : List Int) (m : Int) : lastOf (S ++ [m]) = m := by
  unfold lastOf
  rw [List.length_append, if_neg (by simp)]
  simp [List.getD]
theorem Tr.snoc {T D now m : Int} {S : List Int} {nx : Bool} {due : Int} (h : Tr T D now S nx due) (hm : now ≤ m) (hd : due ≤ m) (hl : (S.length : Int) + 2 ≤ T) : Tr T D m (S ++ [m]) (decide ((S.length : Int) + 2 < T)) (m + D) := by
  have hdue := h.duee
  refine ⟨by rw [List.length_append, List.length_singleton]; omega, ?_, by rw [lastOf_snoc], fun i hi => ?_, fun i hi => ?_, fun i hi => ?_⟩
  · rw [List.length_append, List.length_singleton]
    exact decide_eq_decide.2 (by omega)
  · rw [List.length_append, List.length_singleton] at hi
    rcases Nat.lt_or_ge i S.length with h1 | h1
    · rw [getD_app_left _ _ _ h1]; exact h.ge i h1
    · have e : i = S.length := by omega
      subst e
      rw [(getD_app_right S m 0).1]
      rw [hdue] at hd
      rcases Nat.eq_zero_or_pos S.length with h0 | h0
      · unfold lastOf at hd
        rw [if_pos h0] at hd
        rw [h0]; simp; omega
      · unfold lastOf at hd
        rw [if_neg (by omega)] at hd
        have hg := h.ge (S.length - 1) (by omega)
        have : ((S.length : Int) + 1) * D = (((S.length - 1 : Nat) : Int) + 1) * D + D := by
          rw [show ((S.length : Int) + 1) = (((S.length - 1 : Nat) : Int) + 1) + 1 by omega, Int.add_mul _ 1, Int.one_mul]
        omega
  · rw [List.length_append, List.length_singleton] at hi
    rw [getD_app_left S _ i (by omega)]
    rcases Nat.lt_or_ge (i + 1) S.length with h1 | h1
    · rw [getD_app_left _ _ _ h1]; exact h.chain i h1
    · have e : i + 1 = S.length := by omega
      rw [(getD_app_right S m (i + 1)).2 e]
      rw [hdue] at hd
      unfold lastOf at hd
      rw [if_neg (by omega)] at hd
      rw [show i = S.length - 1 by omega]
      exact hd
  · rw [List.length_append, List.length_singleton] at hi
    rcases Nat.lt_or_ge i S.length with h1 | h1
    · rw [getD_app_left _ _ _ h1]; have := h.le i h1; omega
    · rw [(getD_app_right S m i).2 (by omega)]; exact Int.le_refl _
theorem Tr.later {T D now m : Int} {S : List Int} {nx : Bool} {due : Int} (h : Tr T D now S nx due) (hm : now ≤ m) : Tr T D m S nx due :=
  ⟨h.lim, h.nxe, h.duee, h.ge, h.chain, fun i hi => Int.le_trans (h.le i hi) hm⟩
theorem rep_succ (m : Int) (j : Nat) : List.replicate (j + 1) m = List.replicate j m ++ [m] := List.replicate_succ'
/-- a tick -/
theorem Tr.go {T D now m : Int} {S : List Int} {nx : Bool} {due : Int} (h : Tr T D now S nx due) (hm : now ≤ m) : ∀ j : Nat, Going T D m ((S.length : Int) + 1) due nx j → (1 < j → D ≤ 0) →
    Tr T D m (S ++ List.replicate j m) (nxAt T ((S.length : Int) + 1) nx j) (dueAt D m due j)
  | 0, _, _ => by simpa [nxAt, dueAt] using h.later hm
  | j + 1, hG, hD => by
    have hG' : Going T D m ((S.length : Int) + 1) due nx j := ⟨fun _ => hG.first (by omega), fun h => hG.more (by omega), fun _ => by have := hG.lim (by omega); omega⟩
    have ih := Tr.go h hm j hG' (fun h => hD (by omega))
    have hf := hG.first (by omega)
    have hl := hG.lim (by omega)
    have hdd : dueAt D m due j ≤ m := by
      unfold dueAt
      split
      · exact hf.2
      · have := hD (by omega); omega
    have := ih.snoc (Int.le_refl m) hdd (by rw [List.length_append, List.length_replicate]; omega)
    rw [rep_succ, ← List.append_assoc]
    have e1 : nxAt T ((S.length : Int) + 1) nx (j + 1) = decide (((S ++ List.replicate j m).length : Int) + 2 < T) := by
      unfold nxAt
      rw [if_neg (by omega), List.length_append, List.length_replicate]
      exact decide_eq_decide.2 (by omega)
    have e2 : dueAt D m due (j + 1) = m + D := by unfold dueAt; rw [if_neg (by omega)]
    rw [e1, e2]
    exact this
theorem Tr.tick {T D now m : Int} {S : List Int} {nx : Bool} {due : Int} {j : Nat} (h : Tr T D now S nx due) (hm : now ≤ m) (hs : Started T D m ((S.length : Int) + 1) due nx j) :
    Tr T D m (S ++ List.replicate j m) (nxAt T ((S.length : Int) + 1) nx j) (dueAt D m due j) := h.go hm j hs.going hs.going.more
/-- the finer steps' tries are as many or more, and none later -/
def Cmp (C F : List Int) : Prop := C.length ≤ F.length ∧ ∀ i : Nat, i < C.length → F.getD i 0 ≤ C.getD i 0
theorem Cmp.more {C F : List Int} (h : Cmp C F) (R : List Int) : Cmp C (F ++ R) :=
  ⟨by rw [List.length_append]; have := h.1; omega, fun i hi => by rw [getD_app_left _ _ _ (by have := h.1; omega)]; exact h.2 i hi⟩
theorem Cmp.sync {T D now : Int} {C F : List Int} {j : Nat} {nxc nxf : Bool} {duec duef : Int} (h : Cmp C F) (hc : Tr T D now (C ++ List.replicate j now) nxc duec) (hf : Tr T D now F nxf duef) (hs : nxf = false ∨ now < duef) : Cmp (C ++ List.replicate j now) F := by
  have hcl : (C ++ List.replicate j now).length = C.length + j := by simp
  have hval : ∀ i : Nat, i < C.length + j → i < F.length → F.getD i 0 ≤ (C ++ List.replicate j now).getD i 0 := by
    intro i hi hif
    rcases Nat.lt_or_ge i C.length with h1 | h1
    · rw [getD_app_left _ _ _ h1]; exact h.2 i h1
    · have : (C ++ List.replicate j now).getD i 0 = now := by
        simp only [List.getD, List.getElem?_append_right h1, List.getElem?_replicate]
        rw [if_pos (by omega)]
        rfl
      rw [this]
      exact hf.le i hif
  have hlen : C.length + j ≤ F.length := by
    rcases Nat.lt_or_ge F.length (C.length + j) with h1 | h1
    · exfalso
      have hlim := hc.lim
      rw [hcl] at hlim
      have hnx : nxf = true := by rw [hf.nxe]; exact decide_eq_true (by omega)
      have hdue : now < duef := hs.resolve_left (by rw [hnx]; simp)
      rw [hf.duee] at hdue
      have hle := hc.le F.length (by omega)
      rcases Nat.eq_zero_or_pos F.length with h0 | h0
      · unfold lastOf at hdue
        rw [if_pos h0] at hdue
        have := hc.ge 0 (by omega)
        rw [h0] at hle
        rw [show (((0 : Nat) : Int) + 1) * D = D by simp] at this
        omega
      · unfold lastOf at hdue
        rw [if_neg (by omega)] at hdue
        have h2 := hval (F.length - 1) (by omega) (by omega)
        have h3 := hc.chain (F.length - 1) (by omega)
        rw [show F.length - 1 + 1 = F.length by omega] at h3
        omega
    · exact h1
  exact ⟨by omega, fun i hi => hval i (by omega) (by omega)⟩
/-- two rows lie apart -/
def Ne2 (a b : Value) : Prop := ∀ x, a.ownBlock = some x → b.ownBlock ≠ some x
theorem Ne2.symm {a b : Value} (h : Ne2 a b) : Ne2 b a := fun x hb ha => h x ha hb
/-- where the walk stands: two calls, two rows of numbers -/
structure TI (w0 W : World) (gc gd : Nat) (csc csd : Array Value) (rvc rvd : Value) (runc rund : List Int) (cv fv : Value) (cl fl : List Int) : Prop where
  kc : Blk W gc 91 csc
  rc : W.ownsRow w0.heap.size 3 1 rvc runc.length (intsV runc)
  kd : Blk W gd 91 csd
  rd : W.ownsRow w0.heap.size 3 1 rvd rund.length (intsV rund)
  co : W.ownsRow w0.heap.size 3 1 cv cl.length (intsV cl)
  fi : W.ownsRow w0.heap.size 3 1 fv fl.length (intsV fl)
  hb : Below w0.heap.size w0 W
  gcB : w0.heap.size ≤ gc
  gdB : w0.heap.size ≤ gd
  gne : gc ≠ gd
  d1 : Ne2 rvc rvd
  d2 : Ne2 rvc cv
  d3 : Ne2 rvc fv
  d4 : Ne2 rvd cv
  d5 : Ne2 rvd fv
  d6 : Ne2 cv fv
section
variable {w0 W W' : World} {gc gd : Nat} {csc csd csc' : Array Value} {rvc rvd rvc' : Value} {runc rund runc' : List Int} {cv fv cv' : Value} {cl fl cl' : List Int}
theorem TI.swap (h : TI w0 W gc gd csc csd rvc rvd runc rund cv fv cl fl) : TI w0 W gd gc csd csc rvd rvc rund runc fv cv fl cl :=
  ⟨h.kd, h.rd, h.kc, h.rc, h.fi, h.co, h.hb, h.gdB, h.gcB, h.gne.symm, h.d1.symm, h.d5, h.d4, h.d3, h.d2, h.d6.symm⟩
theorem TI.tick (h : TI w0 W gc gd csc csd rvc rvd runc rund cv fv cl fl) (k : HMid W W' w0.heap.size gc rvc.ownBlock csc' rvc' runc') : TI w0 W' gc gd csc' csd rvc' rvd runc' rund cv fv cl fl := by
  have keep : ∀ {v : Value} {n : Nat} {xs : List Value}, W.ownsRow w0.heap.size 3 1 v n xs → Ne2 rvc v → W'.ownsRow w0.heap.size 3 1 v n xs := fun ho hn => k.up.own ho (fun b hb hF => by
    rcases hF with e | e
    · exact own_blk_ne ho h.kc (by decide) (by rw [← e]; exact hb)
    · exact hn b e hb)
  have ne : ∀ {v : Value} {n : Nat} {xs : List Value}, W.ownsRow w0.heap.size 3 1 v n xs → Ne2 rvc v → Ne2 rvc' v := fun ho hn x hx hv => by
    rcases k.fresh x hx with e | e
    · exact hn x e hv
    · have := (ho.lt x hv).2; omega
  refine ⟨k.kg, k.kr, k.up.blk h.kd ?_, keep h.rd h.d1, keep h.co h.d2, keep h.fi h.d3, h.hb.trans (k.up.below (B := w0.heap.size) ?_ h.hb.size), h.gcB, h.gdB, h.gne, ne h.rd h.d1, ne h.co h.d2, ne h.fi h.d3, h.d4, h.d5, h.d6⟩
  · rintro (e | e)
    · exact h.gne e.symm
    · exact own_blk_ne h.rc h.kd (by decide) e
  · intro i hi
    rcases hi with e | e
    · have := h.gcB; omega
    · exact (h.rc.lt i e).1
theorem TI.ext (h : TI w0 W gc gd csc csd rvc rvd runc rund cv fv cl fl) (hb : Below W.heap.size W W') : TI w0 W' gc gd csc csd rvc rvd runc rund cv fv cl fl := by
  have keep : ∀ {v : Value} {n : Nat} {xs : List Value}, W.ownsRow w0.heap.size 3 1 v n xs → W'.ownsRow w0.heap.size 3 1 v n xs := fun ho => (Upd3.of_below hb (fun _ => False)).own ho (fun _ _ h => h)
  exact ⟨h.kc.below hb h.kc.lt, keep h.rc, h.kd.below hb h.kd.lt, keep h.rd, keep h.co, keep h.fi, h.hb.trans (hb.mono h.hb.size), h.gcB, h.gdB, h.gne, h.d1, h.d2, h.d3, h.d4, h.d5, h.d6⟩
theorem TI.app (h : TI w0 W gc gd csc csd rvc rvd runc rund cv fv cl fl) (ho : W'.ownsRow w0.heap.size 3 1 cv' cl'.length (intsV cl')) (hg : W.grownBy W' cv.ownBlock) (hat : cv'.ownBlock = cv.ownBlock ∨ cv'.ownBlock = some W.heap.size) : TI w0 W' gc gd csc csd rvc rvd runc rund cv' fv cl' fl := by
  have keep : ∀ {v : Value} {n : Nat} {xs : List Value}, W.ownsRow w0.heap.size 3 1 v n xs → Ne2 cv v → W'.ownsRow w0.heap.size 3 1 v n xs := fun {v} {n} {xs} ho2 hn => ho2.kept hg (by
    rcases hv : v.ownBlock with _ | b
    · exact Or.inl rfl
    · exact Or.inr (fun e => hn b e.symm hv))
  have ne : ∀ {v : Value} {n : Nat} {xs : List Value}, W.ownsRow w0.heap.size 3 1 v n xs → Ne2 cv v → Ne2 cv' v := fun ho2 hn x hx hv => by
    rcases hat with e | e
    · exact hn x (e ▸ hx) hv
    · rw [e] at hx
      injection hx with hx
      have := (ho2.lt x hv).2
      omega
  exact ⟨h.kc.grown hg (fun e => own_blk_ne h.co h.kc (by decide) e.symm), keep h.rc h.d2.symm, h.kd.grown hg (fun e => own_blk_ne h.co h.kd (by decide) e.symm), keep h.rd h.d4.symm, ho, keep h.fi h.d6, h.hb.grown hg h.hb.size (fun k e => (h.co.lt k e).1), h.gcB, h.gdB, h.gne, h.d1, (ne h.rc h.d2.symm).symm, h.d3, (ne h.rd h.d4.symm).symm, h.d5, ne h.fi h.d6⟩
/-- a row of events stays where a row of numbers is appended to -/
theorem evs_app {base n k : Nat} {v : Value} {xs ys : List Value} (he : W.ownsRow base 56 4 v n xs) {B : Nat} (ho : W.ownsRow B 3 1 cv k ys) (hg : W.grownBy W' cv.ownBlock) : W'.ownsRow base 56 4 v n xs :=
  he.kept hg (by
    rcases hv : v.ownBlock with _ | b
    · exact Or.inl rfl
    · exact Or.inr (fun e => own_own_ne he ho (by decide) hv e.symm))
end
end Go.Proofs.YtnmcjdiihebagaaDoor.Hdg
