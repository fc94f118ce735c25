/-
  The walk of huff.Decode: what it answers is what decGo says.
-/
import Derived.Test.YtblenefhoidhaaaDoorHuffEnc
import Derived.Test.YtblenefhoidhaaaDoorHuffApart
import Derived.Maps.Own
import Derived.Maps.OwnSet
import Derived.Maps.OwnOps
import Derived.DeepKeys4
import Derived.MapViews
namespace Go.Proofs.YtblenefhoidhaaaDoor.Huff
open Go.RowKit Go.Maps

/-! ### A scope with several labels -/
/-- As Q; by a goto to label l: J l. -/
def jumps (J : Nat → Act → World → Prop) (Q : Exit → Act → World → Prop) : Exit → Act → World → Prop
  | .goto l, a, w => J l a w
  | e, a, w => Q e a w
theorem wp_scope_multi {P : Program} {c : Code} {a : Act} {w : World} {Q : Exit → Act → World → Prop} (J : Nat → Act → World → Prop) (μ : Nat → Act → World → Nat)
    (first : c.wp P (jumps J Q) a w)
    (pass : ∀ l a w, J l a w → ∃ rest, findLabel c l = some rest ∧ rest.wp P (jumps (fun l' a' w' => J l' a' w' ∧ μ l' a' w' < μ l a w) Q) a w) : (Code.scope c).wp P Q a w := by
  intro b k cs
  have hg : ∀ l rest, findLabel c l = some rest → gotoIn l (.inScope c :: k) = some (.code rest :: .inScope c :: k) := fun l rest hf => by simp [gotoIn, hf]
  have key : ∀ n l a w, μ l a w = n → J l a w → ∃ rest, findLabel c l = some rest ∧ ∃ e a' w', Q e a' w' ∧ Arrives P (lone (b.at a (.code rest :: .inScope c :: k)) cs w) b k cs e a' w' := by
    intro n
    induction n using Nat.strongRecOn with
    | _ n ih =>
      intro l a w hn hJ
      obtain ⟨rest, hf, hwp⟩ := pass l a w hJ
      refine ⟨rest, hf, ?_⟩
      obtain ⟨e, a₁, w₁, hq, harr⟩ := hwp b (.inScope c :: k) cs
      cases e with
      | normal => exact ⟨.normal, a₁, w₁, hq, Steps.trans harr (.one step_inScope)⟩
      | exit id => exact ⟨.exit id, a₁, w₁, hq, fun k' hk => harr k' (by simp [exitTo, hk])⟩
      | goto l' =>
        obtain ⟨hJ', hlt⟩ := hq
        obtain ⟨rest', hf', e₂, a₂, w₂, hq₂, harr₂⟩ := ih _ (by omega) l' a₁ w₁ rfl hJ'
        exact ⟨e₂, a₂, w₂, hq₂, .of_steps (harr _ (hg _ _ hf')) harr₂⟩
      | ret => exact ⟨_, a₁, w₁, hq, harr⟩
      | panic ch => exact ⟨_, a₁, w₁, hq, harr⟩
      | outgrown => exact ⟨_, a₁, w₁, hq, harr⟩
  obtain ⟨e, a₁, w₁, hq, harr⟩ := first b (.inScope c :: k) cs
  cases e with
  | normal => exact ⟨.normal, a₁, w₁, hq, .head step_scope (Steps.trans harr (.one step_inScope))⟩
  | exit id => exact ⟨.exit id, a₁, w₁, hq, fun k' hk => .head step_scope (harr k' (by simp [exitTo, hk]))⟩
  | goto l' =>
    obtain ⟨rest', hf', e₂, a₂, w₂, hq₂, harr₂⟩ := key _ l' a₁ w₁ rfl hq
    exact ⟨e₂, a₂, w₂, hq₂, .of_steps (.head step_scope (harr _ (hg _ _ hf'))) harr₂⟩
  | ret => exact ⟨_, a₁, w₁, hq, .of_steps (.one step_scope) harr⟩
  | panic ch => exact ⟨_, a₁, w₁, hq, .of_steps (.one step_scope) harr⟩
  | outgrown => exact ⟨_, a₁, w₁, hq, .of_steps (.one step_scope) harr⟩

/-! ### What it computes -/
def bitAt (xs : List UInt8) (i : Nat) : Nat := (xs.getD (i / 8) 0).toNat / 2 ^ (7 - i % 8) % 2
/-- the symbol of a code -/
def findSym (c n : Nat) : Option Nat := (List.range 257).find? fun s => codeOf s == c && bitsOf s == n
/-- so many bits are left -/
def decGo (xs : List UInt8) : Nat → Nat → Nat → List UInt8 → Option (List UInt8)
  | 0, code, bits, out => if 8 ≤ bits ∨ code ≠ 2 ^ bits - 1 then none else some out
  | r + 1, code, bits, out =>
    match findSym (code * 2 + bitAt xs (8 * xs.length - (r + 1))) (bits + 1) with
    | some s => if s = 256 then none else decGo xs r 0 0 (out ++ [UInt8.ofNat s])
    | none => if bits + 1 < 30 then decGo xs r (code * 2 + bitAt xs (8 * xs.length - (r + 1))) (bits + 1) out else none
def dec (xs : List UInt8) : Option (List UInt8) := decGo xs (8 * xs.length) 0 0 []

/-! ### The map -/
/-- what a code with its bits reads as, as a map's key -/
def kl (c n : Nat) : Lit := .string (keyBytes [.int .u32 c, .int .i64 n])
theorem law : Keyed Tryd.prog 51 := Keyed.of_law (deep_law_laid (m := 2) (by kernel_rfl) (by decide) (of_decide_eq_true (by kernel_rfl)) (by kernel_rfl) (by kernel_rfl))
theorem wf_u32 {c : Nat} (hc : c < 4294967296) : (Lit.int .u32 (c : Int)).wf = true := by
  refine WalkArith.wf_u32 ?_; omega
theorem wf_int {n : Nat} (hn : n < 9223372036854775808) : (Lit.int .i64 (n : Int)).wf = true := by
  refine WalkArith.wf_i64 ?_; omega
theorem keyOf_word (c n : Nat) (hc : c < 4294967296) (hn : n < 9223372036854775808) : keyOf Tryd.prog 51 (.agg #[.int .u32 (c : Int), .int .i64 (n : Int)]) = some (kl c n) := by
  have hd : DataW.Trod (H := Unit) (fun _ => ()) Tryd.prog default 0 (fun _ => true) true 51 (.agg #[.int .u32 (c : Int), .int .i64 (n : Int)]) (.agg [.lit (.int .u32 (c : Int)), .lit (.int .i64 (n : Int))]) ([] ++ []) :=
    Joins.shut_agg2 (y0 := (.lit (.int .u32 (c : Int)), [])) (y1 := (.lit (.int .i64 (n : Int)), [])) Tryd.underlying51 (by kernel_rfl) (by kernel_rfl)
      ⟨1, by simp [DataW.trod, Tryd.underlying25, wf_u32 hc]⟩ ⟨1, by simp [DataW.trod, Tryd.underlying3, wf_int hn]⟩
  exact (keyOf_asKey (by kernel_rfl) (by kernel_rfl) (by kernel_rfl) hd).1
theorem kl_inj {c n c' n' : Nat} (hc : c < 4294967296) (hn : n < 9223372036854775808) (hc' : c' < 4294967296) (hn' : n' < 9223372036854775808) (h : kl c n = kl c' n') : c = c' ∧ n = n' := by
  have h1 := keyOf_word c n hc hn
  have h2 := keyOf_word c' n' hc' hn'
  rw [h] at h1
  have := law.inj h1 h2
  injection this with this
  injection this with this
  injection this with e1 e2
  injection e1 with _ e1
  injection e2 with e2 _
  injection e2 with _ e2
  exact ⟨by omega, by omega⟩
theorem kl_key {c n : Nat} (hc : c < 4294967296) (hn : n < 9223372036854775808) : WideAt.IsKeyLit (kl c n) := law.key (keyOf_word c n hc hn)
/-- the map behind so many rounds -/
def knownD (k : Nat) : DataW Unit := (List.range k).foldl (fun m s => m.put (kl (codeOf s) (bitsOf s)) (.lit (.int .i64 (s : Int)))) (.map [])
theorem known_succ (k : Nat) : knownD (k + 1) = (knownD k).put (kl (codeOf k) (bitsOf k)) (.lit (.int .i64 (k : Int))) := by simp [knownD, List.range_succ, List.foldl_append]
theorem known_map (k : Nat) : IsMap (knownD k) := by
  induction k with
  | zero => exact isMap_empty
  | succ k ih => rw [known_succ]; exact ih.put _ _
theorem sym_small {s : Nat} (h : s < 257) : codeOf s < 4294967296 ∧ bitsOf s < 9223372036854775808 := by
  obtain ⟨_, h30, hc⟩ := bits_ok h
  exact ⟨Nat.lt_trans hc (Nat.lt_of_le_of_lt (Nat.pow_le_pow_right (by decide) h30) (by decide)), by omega⟩
theorem known_none {c n : Nat} (hc : c < 4294967296) (hn : n < 9223372036854775808) (k : Nat) (hk : k ≤ 257) (h : ∀ s, s < k → ¬ (codeOf s = c ∧ bitsOf s = n)) : Maps.has (knownD k) (kl c n) = false := by
  induction k with
  | zero => rfl
  | succ k ih =>
    rw [known_succ, has_put_other]
    · exact ih (by omega) fun s hs => h s (by omega)
    · intro e
      obtain ⟨h1, h2⟩ := sym_small (show k < 257 by omega)
      obtain ⟨e1, e2⟩ := kl_inj hc hn h1 h2 e
      exact h k (by omega) ⟨e1.symm, e2.symm⟩
theorem known_some (s : Nat) (hs : s < 257) (k : Nat) (hk : k ≤ 257) (hsk : s < k) :
    Maps.has (knownD k) (kl (codeOf s) (bitsOf s)) = true ∧ ∀ z, (knownD k).atKey (kl (codeOf s) (bitsOf s)) z = .lit (.int .i64 (s : Int)) := by
  obtain ⟨h1, h2⟩ := sym_small hs
  induction k with
  | zero => omega
  | succ k ih =>
    rw [known_succ]
    by_cases e : s = k
    · subst e
      exact ⟨has_put_same (known_map _) (kl_key h1 h2) _, fun z => atKey_put_same (known_map _) (kl_key h1 h2) _ z⟩
    · have hne : kl (codeOf s) (bitsOf s) ≠ kl (codeOf k) (bitsOf k) := by
        intro e'
        obtain ⟨h3, h4⟩ := sym_small (show k < 257 by omega)
        obtain ⟨e1, e2⟩ := kl_inj h1 h2 h3 h4 e'
        exact e (distinct hs (by omega) e2 e1)
      obtain ⟨i1, i2⟩ := ih (by omega) (by omega)
      exact ⟨by rw [has_put_other hne]; exact i1, fun z => by rw [atKey_put_other hne]; exact i2 z⟩
theorem find_some {c n s : Nat} (h : findSym c n = some s) : s < 257 ∧ codeOf s = c ∧ bitsOf s = n := by
  unfold findSym at h
  have h1 := List.mem_of_find?_eq_some h
  have h2 := List.find?_some h
  simp only [List.mem_range, Bool.and_eq_true, beq_iff_eq] at h1 h2
  exact ⟨h1, h2.1, h2.2⟩
theorem find_none {c n : Nat} (h : findSym c n = none) : ∀ s, s < 257 → ¬ (codeOf s = c ∧ bitsOf s = n) := by
  intro s hs ⟨h1, h2⟩
  unfold findSym at h
  have := List.find?_eq_none.1 h s (List.mem_range.2 hs)
  simp [h1, h2] at this
theorem find_sym {s : Nat} (hs : s < 257) : findSym (codeOf s) (bitsOf s) = some s := by
  cases h : findSym (codeOf s) (bitsOf s) with
  | none => exact absurd ⟨rfl, rfl⟩ (find_none h s hs)
  | some t =>
    obtain ⟨h1, h2, h3⟩ := find_some h
    rw [distinct h1 hs h3 h2]
end Go.Proofs.YtblenefhoidhaaaDoor.Huff
