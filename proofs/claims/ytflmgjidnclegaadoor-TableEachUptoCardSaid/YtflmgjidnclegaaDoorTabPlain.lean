/-
  Plain laws on what a table holds.
-/
import Derived.Test.YtflmgjidnclegaaDoorTabFind
namespace Go.Proofs.YtflmgjidnclegaaDoor.Tab
open Go.RowKit
theorem shr_len (k : Int) (Q : List Hd) : (shr k Q).length ≤ Q.length := by
  induction Q with
  | nil => simp [shr]
  | cons h t ih =>
    unfold shr
    split
    · simp only [List.length_cons]; omega
    · exact Nat.le_refl _
theorem addQ_len (m : Nat) (h : Hd) (Q : List Hd) : (addQ m h Q).length ≤ Q.length + 1 := by
  unfold addQ
  split
  · rw [List.length_append, List.length_singleton]; have := shr_len ((m : Int) - (hsz h : Int)) Q; omega
  · simp
theorem addQ_tot (m : Nat) (h : Hd) (Q : List Hd) : tot (addQ m h Q) ≤ m := by
  unfold addQ
  split
  · rename_i hm
    have := shr_le (k := (m : Int) - (hsz h : Int)) (by omega) Q
    rw [tot_append]
    simp only [tot]
    omega
  · simp [tot]
theorem getAt_new (Q : List Hd) (k : Nat) : getAt Q ((62 : Int) + (k : Int)) = Q.reverse[k]? := by
  unfold getAt
  rw [if_pos (by omega), List.getElem?_append_right (by rw [stat_len]; omega), stat_len]
  congr 1
  omega
theorem getAt_past (Q : List Hd) : getAt Q ((62 : Int) + (Q.length : Int)) = none := by
  unfold getAt
  rw [if_pos (by omega)]
  exact List.getElem?_eq_none (by rw [List.length_append, stat_len, List.length_reverse]; omega)
theorem getAt_first (m : Nat) (h : Hd) (Q : List Hd) : getAt (addQ m h Q) 62 = if hsz h ≤ m then some h else none := by
  unfold getAt addQ
  rw [if_pos (by omega)]
  split
  · rw [List.reverse_append, List.getElem?_append_right (by rw [stat_len]; omega), stat_len]
    rfl
  · exact List.getElem?_eq_none (by rw [List.length_append, stat_len]; simp)
theorem tot_take (l : List Hd) (k : Nat) (x : Hd) (h : l[k]? = some x) : tot (l.take (k + 1)) = tot (l.take k) + hsz x := by
  obtain ⟨hk, rfl⟩ := List.getElem?_eq_some_iff.1 h
  rw [List.take_succ_eq_append_getElem hk, tot_append]
  simp [tot]
theorem tot_take_le (l : List Hd) (k : Nat) : tot (l.take k) ≤ tot l := by
  have h := tot_append (l.take k) (l.drop k)
  rw [List.take_append_drop] at h
  omega
theorem hdR_none : hdR none = .tuple #[.agg #[.string ⟨#[]⟩, .string ⟨#[]⟩, .bool false], .bool false] := rfl
theorem tot_reverse (l : List Hd) : tot l.reverse = tot l := by
  induction l with
  | nil => rfl
  | cons h t ih => rw [List.reverse_cons, tot_append, ih]; simp [tot]; omega
theorem findIn_at (n v : ByteArray) : ∀ (l : List Hd) (k i named : Nat), l[k]? = some (n, v) → (findIn n v l i named).2 = true ∧ (findIn n v l i named).1 ≤ i + k
  | [], k, i, named, h => by simp at h
  | x :: t, 0, i, named, h => by
    obtain rfl : x = (n, v) := by simpa using h
    rw [findIn_hit (h := (n, v)) rfl rfl]
    exact ⟨rfl, Nat.le_refl _⟩
  | x :: t, k + 1, i, named, h => by
    have ht : t[k]? = some (n, v) := by simpa using h
    unfold findIn
    split
    · split
      · exact ⟨rfl, by simp⟩
      · have := findIn_at n v t k (i + 1) (if named = 0 then i else named) ht
        exact ⟨this.1, by omega⟩
    · have := findIn_at n v t k (i + 1) named ht
      exact ⟨this.1, by omega⟩
end Go.Proofs.YtflmgjidnclegaaDoor.Tab
