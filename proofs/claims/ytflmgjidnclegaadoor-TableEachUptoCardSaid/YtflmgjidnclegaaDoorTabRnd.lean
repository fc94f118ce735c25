/-
  A region that draws its order, in a round of a range over a function.
-/
import Derived.Test.YtflmgjidnclegaaDoorTabEach
import Derived.Sort.BigQuietIn
namespace Go.Proofs.YtflmgjidnclegaaDoor.Tab
open Go.RowKit Go.Shelf
section
variable {P : Program} {ops : Array Oper} {C : World → Prop} {Q : Act → Prop} {Q' : Exit → Act → World → Prop} {n l₀ : Nat}
theorem quietIn_of {o : Oper} {a : Act} {K K' : Act → Prop} (hk : ∀ a, K a → K' a) (h : o.quiet P a C K) : o.quietIn Fence.wide n P a C K' := by
  obtain ⟨v, h1, h2⟩ := h
  refine ⟨v, fun w hw => ?_, hk _ h2⟩
  have h3 := h1 w hw
  unfold Oper.quietAt at h3
  unfold Oper.quietAtIn
  generalize (execOp a.eval o).run P w = r at h3
  unfold Oper.quietUpon at h3
  unfold Oper.quietUponIn
  split at h3
  · exact h3
  · exact h3
  · exact ⟨h3.1, fun h => (by cases h), callsIn_wide.2 h3.2⟩
  · exact h3.elim
theorem wpQuietIn_of : ∀ (l : List Oper) (a : Act), wpQuiet P ops C Q l a → wpQuietIn Fence.wide n P ops C Q l a
  | [], _, h => h
  | o :: rest, a, h => by
    refine ⟨fun _ _ _ _ => trivial, ?_⟩
    unfold wpQuiet at h
    split
    · rename_i hw
      rw [if_pos hw] at h
      exact quietIn_of (fun a => wpQuietIn_of rest a) h
    · rename_i hw
      rw [if_neg hw] at h
      exact wpQuietIn_of rest _ h
/-- no operation is a defer statement -/
def noDefer (ops : Array Oper) : Bool := ops.all fun o => match o.op with | .defer _ => false | _ => true
theorem noDefer_at {o : Oper} {i : Nat} (h : noDefer ops = true) (hi : ops[i]? = some o) : ∀ c, o.op ≠ .defer c := by
  intro c hc
  obtain ⟨hl, he⟩ := Array.getElem?_eq_some_iff.1 hi
  have := (Array.all_eq_true.1 h) i hl
  rw [he, hc] at this
  cases this
theorem uponIn_inRound {o : Oper} {a : Act} {K K' : Act → World → Prop} (hk : ∀ a w, K a w → K' a w) (r : Result Next) (h : o.uponIn Fence.wide n P a K Q' r) : o.uponIn (Fence.wide.inRound l₀) n P a K' Q' r := by
  cases r with
  | ok x w' =>
    cases x <;> simp only [Oper.uponIn] at h ⊢ <;>
      first
        | exact hk _ _ h
        | exact ⟨h.1, CallsIn.mono h.2 (fun e w'' he => by cases e <;> first | exact hk _ _ he | exact he)⟩
        | exact ⟨h.1, RowsIn.mono h.2 (fun _ _ he => hk _ _ he)⟩
        | exact ⟨h.1, RoundIn.mono h.2 (fun e w'' he => by cases e <;> first | exact hk _ _ he | exact he)⟩
  | halt x w' => cases x <;> simp only [Oper.uponIn] at h ⊢ <;> exact h
theorem wpOpsIn_inRound (hd : noDefer ops = true) : ∀ (l : List Nat) (a : Act) (w : World), wpOpsIn Fence.wide n P ops Q' l a w → wpOpsIn (Fence.wide.inRound l₀) n P ops Q' l a w
  | [], _, _, h => h
  | i :: rest, a, w, h => by
    cases hi : ops[i]? with
    | none =>
      simp only [wpOpsIn, hi] at h ⊢
      exact wpOpsIn_inRound hd rest a w h
    | some o =>
      simp only [wpOpsIn, hi] at h ⊢
      split
      · rename_i hw
        rw [if_pos hw] at h
        refine ⟨h.1, ?_⟩
        rw [Oper.semAt_eq _ _ _ (noDefer_at hd hi)]
        exact uponIn_inRound (fun a w => wpOpsIn_inRound hd rest a w) _ h.2
      · rename_i hw
        rw [if_neg hw] at h
        exact ⟨h.1, wpOpsIn_inRound hd rest _ w h.2⟩
theorem wpIn_round_region {id : Nat} {a : Act} {w : World} {l : List Oper} (C : World → Prop) (hC : C w.drew) (hd : noDefer l.toArray = true) (hm : P.follows .mixedOrders = true) (hB : Region.lexB .any l.toArray = true)
    (h : wpQuiet P l.toArray C (fun a' => ∀ w', C w' → Q' .normal a' w') l a) : (Code.region id l.toArray true).wpIn (Fence.wide.inRound l₀) n P Q' a w := by
  simp only [Region.lexB, Bool.and_eq_true] at hB
  refine wpIn_region_draw fun t => wpOpsIn_inRound hd _ _ _ ?_
  have h2 := wpAnyQIn_lex (F := Fence.wide) (n := n) (C := C) (md := .any) hB.1 l 0 (Array.replicate l.toArray.size false) a (by simp) (by simpa using hB.2) (wpQuietIn_of l a h)
  have h3 := wpAnyIn_of_quiet (Q := fun a' => ∀ w', C w' → Q' .normal a' w') (Q' := Q') (F := Fence.wide) (n := n) rfl (fun _ w' hw' h => h w' hw') _ _ _ _ hC h2
  simp only [Region.schedule, hm, Bool.true_or, if_true]
  exact wpAnyIn_sound l.toArray.size t _ a _ (by simpa using h3)
end
end Go.Proofs.YtflmgjidnclegaaDoor.Tab
