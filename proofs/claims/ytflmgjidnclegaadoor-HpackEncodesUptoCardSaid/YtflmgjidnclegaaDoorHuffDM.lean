/-
  The walk of huff.Decode: what it answers is what decGo says.
-/
import Derived.Test.YtflmgjidnclegaaDoorHuffM
import Derived.Maps.Own
import Derived.Maps.OwnSet
import Derived.Maps.OwnOps
import Derived.DeepKeys4
import Derived.MapViews
import Derived.Deep.RegionHeld3
import Derived.StillTailTactics
import Derived.Deep.Cut
import Derived.Laws.BytesArg
namespace Go.Proofs.YtflmgjidnclegaaDoor.Huff
open Go.RowKit Go.Maps

/-! ### A scope with several labels -/
/-- As Q; by a goto to label l: J l. -/
def jumps (J : Nat → Act → World → Prop) (Q : Exit → Act → World → Prop) : Exit → Act → World → Prop
  | .goto l, a, w => J l a w
  | e, a, w => Q e a w
theorem wp_scope_multi {P : Program} {c : Code} {a : Act} {w : World} {Q : Exit → Act → World → Prop} (J : Nat → Act → World → Prop) (μ : Nat → Act → World → Nat)
    (first : c.wp P (jumps J Q) a w)
    (pass : ∀ l a w, J l a w → ∃ rest, findLabel c l = some rest ∧ rest.wp P (jumps (fun l' a' w' => J l' a' w' ∧ μ l' a' w' < μ l a w) Q) a w) : (Code.scope c).wp P Q a w := by
  intro b k cs
  have hg : ∀ l rest, findLabel c l = some rest → gotoIn l (.inScope c :: k) = some (.code rest :: .inScope c :: k) := fun l rest hf => by simp [gotoIn, hf]
  have key : ∀ n l a w, μ l a w = n → J l a w → ∃ rest, findLabel c l = some rest ∧ ∃ e a' w', Q e a' w' ∧ Arrives P (lone (b.at a (.code rest :: .inScope c :: k)) cs w) b k cs e a' w' := by
    intro n
    induction n using Nat.strongRecOn with
    | _ n ih =>
      intro l a w hn hJ
      obtain ⟨rest, hf, hwp⟩ := pass l a w hJ
      refine ⟨rest, hf, ?_⟩
      obtain ⟨e, a₁, w₁, hq, harr⟩ := hwp b (.inScope c :: k) cs
      cases e with
      | normal => exact ⟨.normal, a₁, w₁, hq, Steps.trans harr (.one step_inScope)⟩
      | exit id => exact ⟨.exit id, a₁, w₁, hq, fun k' hk => harr k' (by simp [exitTo, hk])⟩
      | goto l' =>
        obtain ⟨hJ', hlt⟩ := hq
        obtain ⟨rest', hf', e₂, a₂, w₂, hq₂, harr₂⟩ := ih _ (by omega) l' a₁ w₁ rfl hJ'
        exact ⟨e₂, a₂, w₂, hq₂, .of_steps (harr _ (hg _ _ hf')) harr₂⟩
      | ret => exact ⟨_, a₁, w₁, hq, harr⟩
      | panic ch => exact ⟨_, a₁, w₁, hq, harr⟩
      | outgrown => exact ⟨_, a₁, w₁, hq, harr⟩
  obtain ⟨e, a₁, w₁, hq, harr⟩ := first b (.inScope c :: k) cs
  cases e with
  | normal => exact ⟨.normal, a₁, w₁, hq, .head step_scope (Steps.trans harr (.one step_inScope))⟩
  | exit id => exact ⟨.exit id, a₁, w₁, hq, fun k' hk => .head step_scope (harr k' (by simp [exitTo, hk]))⟩
  | goto l' =>
    obtain ⟨rest', hf', e₂, a₂, w₂, hq₂, harr₂⟩ := key _ l' a₁ w₁ rfl hq
    exact ⟨e₂, a₂, w₂, hq₂, .of_steps (.head step_scope (harr _ (hg _ _ hf'))) harr₂⟩
  | ret => exact ⟨_, a₁, w₁, hq, .of_steps (.one step_scope) harr⟩
  | panic ch => exact ⟨_, a₁, w₁, hq, .of_steps (.one step_scope) harr⟩
  | outgrown => exact ⟨_, a₁, w₁, hq, .of_steps (.one step_scope) harr⟩

/-! ### What it computes -/
def bitAt (xs : List UInt8) (i : Nat) : Nat := (xs.getD (i / 8) 0).toNat / 2 ^ (7 - i % 8) % 2
/-- the symbol of a code -/
def findSym (c n : Nat) : Option Nat := (List.range 257).find? fun s => codeOf s == c && bitsOf s == n
/-- so many bits are left -/
def decGo (xs : List UInt8) : Nat → Nat → Nat → List UInt8 → Option (List UInt8)
  | 0, code, bits, out => if 8 ≤ bits ∨ code ≠ 2 ^ bits - 1 then none else some out
  | r + 1, code, bits, out =>
    match findSym (code * 2 + bitAt xs (8 * xs.length - (r + 1))) (bits + 1) with
    | some s => if s = 256 then none else decGo xs r 0 0 (out ++ [UInt8.ofNat s])
    | none => if bits + 1 < 30 then decGo xs r (code * 2 + bitAt xs (8 * xs.length - (r + 1))) (bits + 1) out else none
def dec (xs : List UInt8) : Option (List UInt8) := decGo xs (8 * xs.length) 0 0 []

/-! ### The map -/
/-- what a code with its bits reads as, as a map's key -/
def kl (c n : Nat) : Lit := .string (keyBytes [.int .u32 c, .int .i64 n])
theorem law : Keyed Tryd.prog 144 := Keyed.of_law (deep_law_laid (m := 2) (by kernel_rfl) (by decide) (of_decide_eq_true (by kernel_rfl)) (by kernel_rfl) (by kernel_rfl))
theorem wf_u32 {c : Nat} (hc : c < 4294967296) : (Lit.int .u32 (c : Int)).wf = true := by
  refine WalkArith.wf_u32 ?_; omega
theorem wf_int {n : Nat} (hn : n < 9223372036854775808) : (Lit.int .i64 (n : Int)).wf = true := by
  refine WalkArith.wf_i64 ?_; omega
theorem keyOf_word (c n : Nat) (hc : c < 4294967296) (hn : n < 9223372036854775808) : keyOf Tryd.prog 144 (.agg #[.int .u32 (c : Int), .int .i64 (n : Int)]) = some (kl c n) := by
  have hd : DataW.Trod (H := Unit) (fun _ => ()) Tryd.prog default 0 (fun _ => true) true 144 (.agg #[.int .u32 (c : Int), .int .i64 (n : Int)]) (.agg [.lit (.int .u32 (c : Int)), .lit (.int .i64 (n : Int))]) ([] ++ []) :=
    Joins.shut_agg2 (y0 := (.lit (.int .u32 (c : Int)), [])) (y1 := (.lit (.int .i64 (n : Int)), [])) Tryd.underlying144 (by kernel_rfl) (by kernel_rfl)
      ⟨1, by simp [DataW.trod, Tryd.underlying125, wf_u32 hc]⟩ ⟨1, by simp [DataW.trod, Tryd.underlying3, wf_int hn]⟩
  exact (keyOf_asKey (by kernel_rfl) (by kernel_rfl) (by kernel_rfl) hd).1
theorem kl_inj {c n c' n' : Nat} (hc : c < 4294967296) (hn : n < 9223372036854775808) (hc' : c' < 4294967296) (hn' : n' < 9223372036854775808) (h : kl c n = kl c' n') : c = c' ∧ n = n' := by
  have h1 := keyOf_word c n hc hn
  have h2 := keyOf_word c' n' hc' hn'
  rw [h] at h1
  have := law.inj h1 h2
  injection this with this
  injection this with this
  injection this with e1 e2
  injection e1 with _ e1
  injection e2 with e2 _
  injection e2 with _ e2
  exact ⟨by omega, by omega⟩
theorem kl_key {c n : Nat} (hc : c < 4294967296) (hn : n < 9223372036854775808) : WideAt.IsKeyLit (kl c n) := law.key (keyOf_word c n hc hn)
/-- the map behind so many rounds -/
def knownD (k : Nat) : DataW Unit := (List.range k).foldl (fun m s => m.put (kl (codeOf s) (bitsOf s)) (.lit (.int .i64 (s : Int)))) (.map [])
theorem known_succ (k : Nat) : knownD (k + 1) = (knownD k).put (kl (codeOf k) (bitsOf k)) (.lit (.int .i64 (k : Int))) := by simp [knownD, List.range_succ, List.foldl_append]
theorem known_map (k : Nat) : IsMap (knownD k) := by
  induction k with
  | zero => exact isMap_empty
  | succ k ih => rw [known_succ]; exact ih.put _ _
theorem sym_small {s : Nat} (h : s < 257) : codeOf s < 4294967296 ∧ bitsOf s < 9223372036854775808 := by
  obtain ⟨_, h30, hc⟩ := bits_ok h
  exact ⟨Nat.lt_trans hc (Nat.lt_of_le_of_lt (Nat.pow_le_pow_right (by decide) h30) (by decide)), by omega⟩
theorem known_none {c n : Nat} (hc : c < 4294967296) (hn : n < 9223372036854775808) (k : Nat) (hk : k ≤ 257) (h : ∀ s, s < k → ¬ (codeOf s = c ∧ bitsOf s = n)) : Maps.has (knownD k) (kl c n) = false := by
  induction k with
  | zero => rfl
  | succ k ih =>
    rw [known_succ, has_put_other]
    · exact ih (by omega) fun s hs => h s (by omega)
    · intro e
      obtain ⟨h1, h2⟩ := sym_small (show k < 257 by omega)
      obtain ⟨e1, e2⟩ := kl_inj hc hn h1 h2 e
      exact h k (by omega) ⟨e1.symm, e2.symm⟩
theorem known_some (s : Nat) (hs : s < 257) (k : Nat) (hk : k ≤ 257) (hsk : s < k) :
    Maps.has (knownD k) (kl (codeOf s) (bitsOf s)) = true ∧ ∀ z, (knownD k).atKey (kl (codeOf s) (bitsOf s)) z = .lit (.int .i64 (s : Int)) := by
  obtain ⟨h1, h2⟩ := sym_small hs
  induction k with
  | zero => omega
  | succ k ih =>
    rw [known_succ]
    by_cases e : s = k
    · subst e
      exact ⟨has_put_same (known_map _) (kl_key h1 h2) _, fun z => atKey_put_same (known_map _) (kl_key h1 h2) _ z⟩
    · have hne : kl (codeOf s) (bitsOf s) ≠ kl (codeOf k) (bitsOf k) := by
        intro e'
        obtain ⟨h3, h4⟩ := sym_small (show k < 257 by omega)
        obtain ⟨e1, e2⟩ := kl_inj h1 h2 h3 h4 e'
        exact e (distinct hs (by omega) e2 e1)
      obtain ⟨i1, i2⟩ := ih (by omega) (by omega)
      exact ⟨by rw [has_put_other hne]; exact i1, fun z => by rw [atKey_put_other hne]; exact i2 z⟩
theorem find_some {c n s : Nat} (h : findSym c n = some s) : s < 257 ∧ codeOf s = c ∧ bitsOf s = n := by
  unfold findSym at h
  have h1 := List.mem_of_find?_eq_some h
  have h2 := List.find?_some h
  simp only [List.mem_range, Bool.and_eq_true, beq_iff_eq] at h1 h2
  exact ⟨h1, h2.1, h2.2⟩
theorem find_none {c n : Nat} (h : findSym c n = none) : ∀ s, s < 257 → ¬ (codeOf s = c ∧ bitsOf s = n) := by
  intro s hs ⟨h1, h2⟩
  unfold findSym at h
  have := List.find?_eq_none.1 h s (List.mem_range.2 hs)
  simp [h1, h2] at this
theorem find_sym {s : Nat} (hs : s < 257) : findSym (codeOf s) (bitsOf s) = some s := by
  cases h : findSym (codeOf s) (bitsOf s) with
  | none => exact absurd ⟨rfl, rfl⟩ (find_none h s hs)
  | some t =>
    obtain ⟨h1, h2, h3⟩ := find_some h
    rw [distinct h1 hs h3 h2]
end Go.Proofs.YtflmgjidnclegaaDoor.Huff
/-
  The walk of huff.Decode: what it answers is what decGo says.
-/
namespace Go.Proofs.YtflmgjidnclegaaDoor.Huff
open Go.RowKit Go.Maps

theorem bit_step (code bits y s7 : Nat) (hc : code < 2 ^ bits) (hb : bits < 30) (hy : y < 2 ^ 8) :
    Go.bits .or .u32 (IntKind.u32.wrap ((code : Int) * 2)) (IntKind.u32.wrap (Go.bits .and .u8 ((y : Int) / 2 ^ s7) 1)) = ((code * 2 + y / 2 ^ s7 % 2 : Nat) : Int) := by
  have hp : 2 ^ bits ≤ 536870912 := Nat.pow_le_pow_right (by decide) (by omega : bits ≤ 29)
  have e1 : (code : Int) * 2 = ((code * 2 : Nat) : Int) := by omega
  have e2 : (y : Int) / 2 ^ s7 = ((y / 2 ^ s7 : Nat) : Int) := by simp
  have hle : y / 2 ^ s7 ≤ y := Nat.div_le_self _ _
  have e3 : Go.bits .and .u8 ((y / 2 ^ s7 : Nat) : Int) 1 = ((y / 2 ^ s7 % 2 : Nat) : Int) := by
    have := u8_and_nat (y / 2 ^ s7) 1 (by omega) (by decide)
    rw [Nat.and_one_is_mod] at this
    exact this
  have hm : y / 2 ^ s7 % 2 < 2 := Nat.mod_lt _ (by decide)
  rw [e1, e2, e3, IntKind.wrap_u32', IntKind.wrap_u32']
  rw [show ((code * 2 : Nat) : Int) % 4294967296 = ((code * 2 : Nat) : Int) by omega, show ((y / 2 ^ s7 % 2 : Nat) : Int) % 4294967296 = ((y / 2 ^ s7 % 2 : Nat) : Int) by omega, u32_or_nat _ _ (by omega) (by omega)]
  have := mul_or code 1 (y / 2 ^ s7 % 2) (by omega)
  rw [show (2 : Nat) ^ 1 = 2 from rfl] at this
  rw [this]
theorem bit_step2 (code bits y s7 : Nat) (hc : code < 2 ^ bits) (hb : bits < 30) (hy : y < 2 ^ 8) :
    Go.bits .or .u32 ((code : Int) * 2 % 4294967296) (Go.bits .and .u8 ((y : Int) / 2 ^ s7) 1 % 4294967296) = ((code * 2 + y / 2 ^ s7 % 2 : Nat) : Int) := by
  have := bit_step code bits y s7 hc hb hy
  rwa [IntKind.wrap_u32', IntKind.wrap_u32'] at this
/-- a slice of bytes that lies below the heap's end -/
def BytesAt (w : World) (A : Option Addr) (xs : List UInt8) : Prop :=
  ∀ i, i < xs.length → ∃ b off, A = some ⟨b, off, none⟩ ∧ b < w.heap.size ∧ w.cell? ⟨b, off + i, none⟩ = some (.int .u8 ((xs.getD i 0).toNat : Nat))
theorem BytesAt.below {w w' : World} {A : Option Addr} {xs : List UInt8} (h : BytesAt w A xs) (hb : Below w.heap.size w w') : BytesAt w' A xs := by
  intro i hi
  obtain ⟨b, off, hA, hlt, hc⟩ := h i hi
  exact ⟨b, off, hA, Nat.lt_of_lt_of_le hlt hb.size, (hb.cell (p := ⟨b, off + i, none⟩) hlt).trans hc⟩

/-- what Decode answers -/
def DecPost (W : World) (xs : List UInt8) (v : Value) (e : Ending) (w' : World) : Prop :=
  Below W.heap.size W w' ∧ e = .returned (match dec xs with | some out => .tuple #[.string ⟨out.toArray⟩, .nilIface] | none => .tuple #[.string ⟨#[]⟩, v])

/-- the frame behind the loop: what is written later stands behind letters -/
def frame (f : Nat → Value) (arg m out pt i : Value) : Act := ⟨#[arg, f 1, (.string ⟨#[]⟩), .nilIface, m, f 5, f 6, f 7, f 8, out, pt, i, f 12, f 13, f 14, f 15, f 16, f 17, f 18, f 19, f 20, f 21, f 22, f 23, f 24, f 25, f 26, f 27, f 28, f 29, f 30, f 31, f 32, f 33, f 34, f 35, f 36, f 37, f 38, f 39, f 40, f 41, f 42, f 43, f 44, f 45, f 46, f 47, f 48, f 49, f 50, f 51, f 52, f 53, f 54, f 55, f 56, f 57, f 58, f 59, f 60, f 61, f 62, f 63, f 64, f 65, f 66, f 67, f 68, f 69, f 70, f 71, f 72, f 73, f 74, f 75, f 76, f 77, f 78, f 79, f 80, f 81, f 82, f 83, f 84, f 85, f 86, f 87, f 88, f 89], []⟩

noncomputable def scopeCode : Code := match Tryd.f111.body with
  | some (.seq _ (.scope c)) => c
  | _ => .skip
noncomputable def restCode (l : Nat) : Code := (findLabel scopeCode l).getD .skip
noncomputable def bitCode : Code := match restCode 1 with
  | .seq _ c => c
  | _ => .skip
theorem rest_bit : restCode 1 = .seq .skip bitCode := by kernel_rfl
theorem rest_found0 : findLabel scopeCode 0 = some (restCode 0) := by kernel_rfl
theorem rest_found1 : findLabel scopeCode 1 = some (restCode 1) := by kernel_rfl
theorem rest_found2 : findLabel scopeCode 2 = some (restCode 2) := by kernel_rfl

/-- what holds at the label 'bit' -/
structure AtBit (W : World) (xs : List UInt8) (A : Option Addr) (cap : Nat) (v : Value) (M T : Nat) (w : World) (r code bits : Nat) (out : List UInt8) (ov : Value) : Prop where
  hr : r ≤ 8 * xs.length
  hdec : Hid (decGo xs r code bits out = dec xs)
  hcode : code < 2 ^ bits
  hbits : bits < 30
  hout : out.length * 5 + bits + r ≤ 8 * xs.length
  hown : w.ownsRow W.heap.size 5 1 ov out.length (bytesV out)
  hT : Blk w T 144 #[.int .u32 (code : Int), .int .i64 (bits : Int)]
  hTW : W.heap.size ≤ T
  hM : w.ownsMap Tryd.prog 144 (plainElem (H := Unit) Tryd.prog 3) M 257 (knownD 257)
  hMW : W.heap.size ≤ M
  hB : Below W.heap.size W w

def J (W : World) (xs : List UInt8) (A : Option Addr) (cap : Nat) (v : Value) (M T : Nat) (l : Nat) (a : Act) (w : World) : Prop :=
  match l with
  | 1 => ∃ f r code bits out ov, a = frame f (.slice A xs.length cap) (.map (some M)) ov (.pointer (some ⟨T, 0, none⟩)) (.int .i64 ((8 * xs.length - r : Nat) : Int)) ∧ AtBit W xs A cap v M T w r code bits out ov
  | 2 => ∃ f out i, a = frame f (.slice A xs.length cap) (.map (some M)) out (.pointer (some ⟨T, 0, none⟩)) i ∧ Below W.heap.size W w ∧ dec xs = none
  | 0 => ∃ f code bits out ov i, a = frame f (.slice A xs.length cap) (.map (some M)) ov (.pointer (some ⟨T, 0, none⟩)) i ∧ AtBit W xs A cap v M T w 0 code bits out ov
  | _ => False
def mu (len : Nat) (l : Nat) (a : Act) (_ : World) : Nat :=
  match l with
  | 1 => 8 * len + 3 - (intOf (a.tmps.getD 11 undef)).toNat
  | 2 => 0
  | _ => 1

section
variable {W : World} {xs : List UInt8} {A : Option Addr} {cap : Nat} {v : Value} {M T : Nat} {a : Act} {w : World}
theorem J2_intro (h : a = frame (fun k => a.tmps.getD k undef) (.slice A xs.length cap) (.map (some M)) (a.tmps.getD 9 undef) (.pointer (some ⟨T, 0, none⟩)) (a.tmps.getD 11 undef))
    (hb : Below W.heap.size W w) (hd : dec xs = none) : J W xs A cap v M T 2 a w := ⟨_, _, _, h, hb, hd⟩
theorem J1_intro {r code bits : Nat} {out : List UInt8} {ov : Value} (h : a = frame (fun k => a.tmps.getD k undef) (.slice A xs.length cap) (.map (some M)) ov (.pointer (some ⟨T, 0, none⟩)) (.int .i64 ((8 * xs.length - r : Nat) : Int)))
    (hb : AtBit W xs A cap v M T w r code bits out ov) : J W xs A cap v M T 1 a w := ⟨_, _, _, _, _, _, h, hb⟩
theorem J0_intro {code bits : Nat} {out : List UInt8} {ov i : Value} (h : a = frame (fun k => a.tmps.getD k undef) (.slice A xs.length cap) (.map (some M)) ov (.pointer (some ⟨T, 0, none⟩)) i)
    (hb : AtBit W xs A cap v M T w 0 code bits out ov) : J W xs A cap v M T 0 a w := ⟨_, _, _, _, _, _, h, hb⟩
end
/-- what the code behind the label may count on -/
structure Outs (W : World) (xs : List UInt8) (A : Option Addr) (cap : Nat) (v : Value) (M T : Nat) (r : Nat) (Q : Exit → Act → World → Prop) : Prop where
  h0 : ∀ a w', J W xs A cap v M T 0 a w' → Q (.goto 0) a w'
  h1 : ∀ a w' r' code bits out ov, a = frame (fun k => a.tmps.getD k undef) (.slice A xs.length cap) (.map (some M)) ov (.pointer (some ⟨T, 0, none⟩)) (.int .i64 ((8 * xs.length - r' : Nat) : Int)) →
    AtBit W xs A cap v M T w' r' code bits out ov → r' + 1 = r → Q (.goto 1) a w'
  h2 : ∀ a w', J W xs A cap v M T 2 a w' → Q (.goto 2) a w'
  hret : ∀ a w', a.tmps.getD 2 undef = .string ⟨#[]⟩ → a.tmps.getD 3 undef = v → a.defers = [] → Below W.heap.size W w' → dec xs = none → Q .ret a w'
theorem own_map_ne {w : World} {base : Nat} {e : TypeId} {size n : Nat} {v : Value} {xs : List Value} {P : Program} {k : TypeId} {R : Value → Option (DataW Unit × List MemPlace)} {b m : Nat} {D : DataW Unit} (h : w.ownsRow base e size v n xs)
    (hM : w.ownsMap P k R b m D) : v.ownBlock ≠ some b := by
  obtain ⟨es, clock, hblk, _⟩ := hM
  rcases h.2 with ⟨rfl, _⟩ | ⟨g', cap, cur, rfl, _, hh, _⟩
  · simp [Value.ownBlock]
  · intro he
    have : g' = b := by simpa [Value.ownBlock] using he
    subst this
    rw [hh] at hblk
    cases hblk
theorem atKey_int {D : DataW Unit} {k : Lit} {z : DataW Unit} {s c : Int} (h : D.atKey k z = .lit (.int .i64 s)) (h' : D.atKey k z = .lit (.int .i64 c)) : c = s := by
  rw [h] at h'
  injection h' with h'
  injection h' with _ h'
  exact h'.symm
theorem zero_int (w : World) : (zeroValue 3).run Tryd.prog w = .ok (.int .i64 0) w := by kernel_rfl
set_option maxRecDepth 100000 in
set_option maxHeartbeats 1000000 in
theorem pass_bit (W : World) (xs : List UInt8) (A : Option Addr) (cap : Nat) (v : Value) (M T : Nat) (hlen : xs.length ≤ 34359738368) (hx : BytesAt W A xs) (hv : W.cell? ⟨7, 0, none⟩ = some v) (hg : 7 < W.heap.size)
    (f : Nat → Value) (r code bits : Nat) (out : List UInt8) (ov : Value) (w : World) (h : AtBit W xs A cap v M T w r code bits out ov) (Q : Exit → Act → World → Prop) (hQ : Outs W xs A cap v M T r Q) :
    bitCode.wp Tryd.prog Q (frame f (.slice A xs.length cap) (.map (some M)) ov (.pointer (some ⟨T, 0, none⟩)) (.int .i64 ((8 * xs.length - r : Nat) : Int))) w := by
  conv => arg 2; whnf
  unfold frame
  by_cases hr : r = 0
  · subst hr
    have htest : (((8 * xs.length - 0 : Nat) : Int) == 8 * (xs.length : Int)) = true := beq_iff_eq.2 (by omega)
    generalize hi : 8 * xs.length - 0 = i at *
    clear hi
    go_wp2_with fail
    go_step3
    exact hQ.h0 _ _ (J0_intro rfl h)
  · obtain ⟨r', rfl⟩ : ∃ r', r = r' + 1 := ⟨r - 1, by omega⟩
    have hi1 := h.hr
    obtain ⟨i, hi⟩ : ∃ i, i = 8 * xs.length - (r' + 1) := ⟨_, rfl⟩
    rw [← hi]
    have htest : ((i : Int) == 8 * (xs.length : Int)) = false := beq_eq_false_iff_ne.2 (by omega)
    have Hi := Lib.hid hi
    clear hi
    have hil : (i : Int) < 8 * (xs.length : Int) := by have := Hi.out; omega
    obtain ⟨q, hq⟩ : ∃ q, q = i / 8 := ⟨_, rfl⟩
    obtain ⟨s7, hs7⟩ : ∃ s7, s7 = 7 - i % 8 := ⟨_, rfl⟩
    obtain ⟨m8, hm8⟩ : ∃ m8, m8 = i % 8 := ⟨_, rfl⟩
    have w1 : IntKind.i64.wrap ((i : Int).tdiv 8) = (q : Int) := by rw [Int.tdiv_eq_ediv_of_nonneg (by omega), IntWalk.i64_in _ (by omega)]; omega
    have w2 : IntKind.i64.wrap ((i : Int).tmod 8) = (m8 : Int) := by rw [Int.tmod_eq_emod_of_nonneg (by omega), IntWalk.i64_in _ (by omega)]; omega
    have w2' : (i : Int).tmod 8 = (m8 : Int) := by rw [Int.tmod_eq_emod_of_nonneg (by omega)]; omega
    have w3 : IntKind.i64.wrap (7 - (m8 : Int)) = (s7 : Int) := by rw [IntWalk.i64_in _ (by omega)]; omega
    have w1' : IntKind.i64.wrap ((i : Int) / 8) = (q : Int) := by rw [IntWalk.i64_in _ (by omega)]; omega
    have w2'' : IntKind.i64.wrap ((i : Int) % 8) = (m8 : Int) := by rw [IntWalk.i64_in _ (by omega)]; omega
    have hbit : bitAt xs i = (xs.getD q 0).toNat / 2 ^ s7 % 2 := by rw [hq, hs7]; rfl
    have hq0 : (0 : Int) ≤ (q : Int) := by omega
    have hq1 : (q : Int) < (xs.length : Int) := by omega
    have Hq := Lib.hid hq
    have Hs7 := Lib.hid hs7
    have Hbit := Lib.hid hbit
    have hs7' : s7 ≤ 7 := by omega
    clear hbit hq hs7 hm8
    obtain ⟨b, off, rfl, hb, hc⟩ := hx q (by omega)
    have hcw := (h.hB.cell (p := ⟨b, off + q, none⟩) hb).trans hc
    have hy := (xs.getD q 0).toNat_lt
    generalize (xs.getD q 0).toNat = y at *
    have hcode : w.cell? ⟨T, 0, none⟩ = some (.int .u32 (code : Int)) := h.hT.cell 0
    have hbits : w.cell? ⟨T, 1, none⟩ = some (.int .i64 (bits : Int)) := h.hT.cell 1
    have hfr0 := h.hT.frozen 0
    have hfr1 := h.hT.frozen 1
    have hbl := h.hbits
    have w5 : IntKind.i64.wrap ((bits : Int) + 1) = (bits : Int) + 1 := by rw [IntWalk.i64_in _ (by omega)]
    go_wp2_with fail
    have hown0 := h.hown
    have hM0 := h.hM
    have hT0 := h.hT
    have hB0 := h.hB
    have hcode0 := h.hcode
    have hTW := h.hTW
    have hMW := h.hMW
    have hout := h.hout
    have Hdec := h.hdec
    have hTM : T ≠ M := by
      intro e
      subst e
      obtain ⟨es, clock, hblk, _⟩ := hM0
      unfold Blk at hT0
      rw [hT0] at hblk
      cases hblk
    clear h
    go_still_tail 19, (by kernel_rfl)
    change wpList _ _ _ _ _ w.drew
    go_upto_region 14 with (fail)
    rw [bit_step code bits y s7 hcode0 hbl hy, bit_step2 code bits y s7 hcode0 hbl hy]
    have hc2 : code * 2 + y / 2 ^ s7 % 2 < 2 ^ (bits + 1) := by
      have : y / 2 ^ s7 % 2 < 2 := Nat.mod_lt _ (by decide)
      rw [Nat.pow_succ]; omega
    have hstep : decGo xs (r' + 1) code bits out = match findSym (code * 2 + y / 2 ^ s7 % 2) (bits + 1) with
      | some s => if s = 256 then none else decGo xs r' 0 0 (out ++ [UInt8.ofNat s])
      | none => if bits + 1 < 30 then decGo xs r' (code * 2 + y / 2 ^ s7 % 2) (bits + 1) out else none := by
      rw [← Hbit.out, Hi.out]; rfl
    generalize code * 2 + y / 2 ^ s7 % 2 = code' at *
    have hT1 : Blk ((w.setCell ⟨T, 0, none⟩ (.int .u32 (code' : Int))).setCell ⟨T, 1, none⟩ (.int .i64 ((bits : Int) + 1))).drew T 144 #[.int .u32 (code' : Int), .int .i64 ((bits : Int) + 1)] :=
      ((hT0.set_ 0 (.int .u32 (code' : Int))).set_ 1 (.int .i64 ((bits : Int) + 1))).drew
    have hg1 : w.grownBy ((w.setCell ⟨T, 0, none⟩ (.int .u32 (code' : Int))).setCell ⟨T, 1, none⟩ (.int .i64 ((bits : Int) + 1))).drew (some T) :=
      only_drew (only_setCell (only_setCell (World.grownBy.refl w _) (p := ⟨T, 0, none⟩) (.inl rfl) _) (p := ⟨T, 1, none⟩) (.inl rfl) _)
    have hM1 := hM0.kept hg1 (by simpa using Ne.symm hTM)
    have hO1 := hown0.kept hg1 (.inr (fun e => own_blk_ne hown0 hT0 (by decide) e))
    have hB1 : Below W.heap.size W ((w.setCell ⟨T, 0, none⟩ (.int .u32 (code' : Int))).setCell ⟨T, 1, none⟩ (.int .i64 ((bits : Int) + 1))).drew :=
      ((hB0.setCell (p := ⟨T, 0, none⟩) hTW _).setCell (p := ⟨T, 1, none⟩) hTW _).drew
    have hc32 : code' < 4294967296 := Nat.lt_of_lt_of_le hc2 (Nat.le_trans (Nat.pow_le_pow_right (by decide) (by omega : bits + 1 ≤ 30)) (by decide))
    generalize ((w.setCell ⟨T, 0, none⟩ (.int .u32 (code' : Int))).setCell ⟨T, 1, none⟩ (.int .i64 ((bits : Int) + 1))).drew = w9 at *
    have hcell0 : w9.cell? ⟨T, 0, none⟩ = some (.int .u32 (code' : Int)) := hT1.cell 0
    have hcell1 : w9.cell? ⟨T, 1, none⟩ = some (.int .i64 ((bits : Int) + 1)) := hT1.cell 1
    have hfz0 := hT1.frozen 0
    have hfz1 := hT1.frozen 1
    clear hcw hc hcode hbits hfr0 hfr1 hown0 hM0 hT0 hB0 hg1 hx w1 w1' w2 w2' w2'' w3 w5 hq0 hq1
    cases hfind : findSym code' (bits + 1) with
    | some sy =>
      obtain ⟨hs1, hs2, hs3⟩ := find_some hfind
      obtain ⟨hk1, hk2⟩ := known_some sy hs1 257 (Nat.le_refl _) hs1
      rw [hs2, hs3] at hk1 hk2
      rw [hfind] at hstep
      have Hk2 := Lib.hid hk2
      have Hs := Lib.hid hstep
      have hkw : keyOf Tryd.prog 144 (.agg #[.int .u32 (code' : Int), .int .i64 ((bits : Int) + 1)]) = some (kl code' (bits + 1)) := keyOf_word code' (bits + 1) hc32 (by omega)
      have Hkey := Lib.hid hkw
      clear hkw
      clear hfind hstep hk2 hs2
      have hs3' := Lib.hid hs3
      clear hs3
      by_cases h256 : sy = 256
      · subst h256
        have hnone : dec xs = none := by rw [← Hdec.out, Hs.out]; rfl
        have HN := Lib.hid hnone
        have ht256 : (((256 : Nat) : Int) == 256) = true := by decide
        clear hnone
        go_wp2_with (first | (at_lookup; go_loud (refine wpList_lookup_own_ok_int _ rfl _ _ 142 rfl 144 3 .i64 law Tryd.underlying142 Tryd.underlying3 (zero_int _) M 257 (knownD 257) rfl hM1 _ _ rfl Hkey.out ?_); intro cc hat hwc; rw [hk1]; obtain rfl := atKey_int (Hk2.out _) hat; clear hat hwc))
        go_step3
        show Q (.goto 2) _ _
        refine hQ.h2 _ _ (J2_intro rfl hB1 HN.out)
      · have ht256 : ((sy : Int) == 256) = false := beq_eq_false_iff_ne.2 (by omega)
        have hsy : sy < 256 := by omega
        have hs5 := (bits_ok hs1).1
        have hn1 : out.length + 1 ≤ 140737488355328 := by omega
        have Hne := Lib.hid h256
        clear h256
        go_wp2_with (first
          | (at_lookup; go_loud (refine wpList_lookup_own_ok_int _ rfl _ _ 142 rfl 144 3 .i64 law Tryd.underlying142 Tryd.underlying3 (zero_int _) M 257 (knownD 257) rfl hM1 _ _ rfl Hkey.out ?_); intro cc hat hwc; rw [hk1]; obtain rfl := atKey_int (Hk2.out _) hat; clear hat hwc)
          | (at_builtin; refine append_byte _ _ rfl _ _ rfl _ _ _ _ rfl hO1 _ rfl hn1 hB1.size ?_; intro v1 w2 hO2 hg2; have hT2 := (hT1.alloc (.cells #[.int .u8 _] 5)).grown hg2 (Ne.symm (own_blk_ne hO1 hT1 (by decide))); have k0 : w2.cell? ⟨T, 0, none⟩ = some (.int .u32 (code' : Int)) := hT2.cell 0; have k1 : w2.cell? ⟨T, 1, none⟩ = some (.int .i64 ((bits : Int) + 1)) := hT2.cell 1; have z0 := hT2.frozen 0; have z1 := hT2.frozen 1))
        go_step3
        have e11 : Value.int .i64 ((i : Int) + 1) = .int .i64 ((8 * xs.length - r' : Nat) : Int) := by
          have := Hi.out
          congr 1
          omega
        rw [e11]
        show Q (.goto 1) _ _
        have hU : (UInt8.ofNat sy).toNat = sy := UInt8.toNat_ofNat_of_lt' hsy
        have hO3 : w2.ownsRow W.heap.size 5 1 v1 (out ++ [UInt8.ofNat sy]).length (bytesV (out ++ [UInt8.ofNat sy])) := by
          rw [bytesV_append, List.length_append]
          have : bytesV [UInt8.ofNat sy] = [.int .u8 (sy : Int)] := by simp [bytesV, hU]
          rw [this]
          exact hO2
        have hg3 : w2.grownBy ((w2.setCell ⟨T, 0, none⟩ (.int .u32 0)).setCell ⟨T, 1, none⟩ (.int .i64 0)) (some T) :=
          only_setCell (only_setCell (World.grownBy.refl w2 _) (p := ⟨T, 0, none⟩) (.inl rfl) _) (p := ⟨T, 1, none⟩) (.inl rfl) _
        have hM2 := ((hM1.alloc (.cells #[.int .u8 (sy : Int)] 5)).kept hg2 (by
          intro e
          have := own_map_ne hO1 hM1
          exact this e.symm)).kept hg3 (by simpa using Ne.symm hTM)
        have hB2 := ((hB1.alloc hB1.size (.cells #[.int .u8 (sy : Int)] 5)).grown hg2 (by have := hB1.size; simp; omega) (own_ge hO1))
        refine hQ.h1 _ _ r' 0 0 (out ++ [UInt8.ofNat sy]) v1 rfl ⟨by omega, ?_, by simp, by omega, ?_, ?_, ?_, hTW, hM2, hMW, ?_⟩ rfl
        · have h1 := Hs.out.symm.trans Hdec.out
          have h3 : (if sy = 256 then none else decGo xs r' 0 0 (out ++ [UInt8.ofNat sy])) = dec xs := h1
          rw [if_neg Hne.out] at h3
          exact h3
        · have := hs3'.out; rw [List.length_append]; simp; omega
        · exact hO3.kept hg3 (.inr (fun e => own_blk_ne hO3 hT2 (by decide) e))
        · exact (hT2.set_ 0 (.int .u32 0)).set_ 1 (.int .i64 0)
        · exact (hB2.setCell (p := ⟨T, 0, none⟩) hTW _).setCell (p := ⟨T, 1, none⟩) hTW _
    | none =>
      rw [hfind] at hstep
      have hk1 := known_none (c := code') (n := bits + 1) hc32 (by omega) 257 (Nat.le_refl _) (find_none hfind)
      have Hs := Lib.hid hstep
      have hkw : keyOf Tryd.prog 144 (.agg #[.int .u32 (code' : Int), .int .i64 ((bits : Int) + 1)]) = some (kl code' (bits + 1)) := keyOf_word code' (bits + 1) hc32 (by omega)
      have Hkey := Lib.hid hkw
      clear hkw hfind hstep
      by_cases h30 : bits + 1 < 30
      · go_wp2_with (first
          | (at_lookup; go_loud (refine wpList_lookup_own_ok_int _ rfl _ _ 142 rfl 144 3 .i64 law Tryd.underlying142 Tryd.underlying3 (zero_int _) M 257 (knownD 257) rfl hM1 _ _ rfl Hkey.out ?_); intro cc hat hwc; rw [hk1]; clear hat hwc))
        go_step3
        have e11 : Value.int .i64 ((i : Int) + 1) = .int .i64 ((8 * xs.length - r' : Nat) : Int) := by
          have := Hi.out
          congr 1
          omega
        rw [e11]
        show Q (.goto 1) _ _
        refine hQ.h1 _ _ r' code' (bits + 1) out ov rfl ⟨by omega, ?_, hc2, h30, by omega, hO1, hT1, hTW, hM1, hMW, hB1⟩ rfl
        have h1 := Hs.out.symm.trans Hdec.out
        have h3 : (if bits + 1 < 30 then decGo xs r' code' (bits + 1) out else none) = dec xs := h1
        rw [if_pos h30] at h3
        exact h3
      · have hnone : dec xs = none := by
          have h1 := Hs.out.symm.trans Hdec.out
          have h3 : (if bits + 1 < 30 then decGo xs r' code' (bits + 1) out else none) = dec xs := h1
          rw [if_neg h30] at h3
          exact h3.symm
        have HN := Lib.hid hnone
        clear hnone
        have hvw := (hB1.cell (p := ⟨7, 0, none⟩) hg).trans hv
        go_wp2_with (first
          | (at_lookup; go_loud (refine wpList_lookup_own_ok_int _ rfl _ _ 142 rfl 144 3 .i64 law Tryd.underlying142 Tryd.underlying3 (zero_int _) M 257 (knownD 257) rfl hM1 _ _ rfl Hkey.out ?_); intro cc hat hwc; rw [hk1]; clear hat hwc))
        go_step3
        go_wp2_with fail
        go_quiet (fail)
        go_wp2_with fail
        exact hQ.hret _ _ rfl rfl rfl (below_drewN hB1 _) HN.out

set_option maxRecDepth 100000 in
set_option maxHeartbeats 1000000 in
theorem pass_none (W : World) (xs : List UInt8) (A : Option Addr) (cap : Nat) (v : Value) (M T : Nat) (hv : W.cell? ⟨7, 0, none⟩ = some v) (hg : 7 < W.heap.size)
    (f : Nat → Value) (ov i : Value) (w : World) (hB : Below W.heap.size W w) (Q : Exit → Act → World → Prop)
    (hret : ∀ a w', a.tmps.getD 2 undef = .string ⟨#[]⟩ → a.tmps.getD 3 undef = v → a.defers = [] → Below W.heap.size W w' → Q .ret a w') :
    (restCode 2).wp Tryd.prog Q (frame f (.slice A xs.length cap) (.map (some M)) ov (.pointer (some ⟨T, 0, none⟩)) i) w := by
  conv => arg 2; whnf
  unfold frame
  have hvw := (hB.cell (p := ⟨7, 0, none⟩) hg).trans hv
  go_wp2_with fail
  go_quiet (fail)
  go_wp2_with fail
  exact hret _ _ rfl rfl rfl (below_drewN hB _)

theorem pow_mod (bits : Nat) (h : bits < 8) : ((2 : Int) ^ bits - 1) % 4294967296 = ((2 ^ bits - 1 : Nat) : Int) := by
  have hp : 2 ^ bits ≤ 2 ^ 7 := Nat.pow_le_pow_right (by decide) (by omega)
  have h1 : 1 ≤ 2 ^ bits := Nat.one_le_two_pow
  have e2 : ((2 : Int) ^ bits) = ((2 ^ bits : Nat) : Int) := by simp
  rw [e2]
  omega
set_option maxRecDepth 100000 in
theorem conv_own {w : World} {base : Nat} {ov : Value} {out : List UInt8} (h : w.ownsRow base 5 1 ov out.length (bytesV out)) (nq : Nat) :
    (convert 66 9 ov).run Tryd.prog (w.drewN nq) = .ok (.string ⟨out.toArray⟩) (w.drewN nq) := by
  rcases h.2 with ⟨rfl, h0⟩ | ⟨g, cap, cur, rfl, _, _⟩
  · have : out = [] := List.eq_nil_of_length_eq_zero h0
    subst this
    exact run_convert_bytes_nil _ _ _ Tryd.underlying66 Tryd.underlying5 0 0 _ Tryd.underlying9
  · have := run_convert_bytes_arg (P := Tryd.prog) (w.drewN nq) 66 5 Tryd.underlying66 Tryd.underlying5 g 0 out.length cap (out.map fun c => (c.toNat : Int)) (by simp) (fun i hi => by
      have hc := h.cellAt i (by omega)
      rw [Nat.zero_add]
      refine Eq.trans (b := w.cell? ⟨g, i, none⟩) rfl ?_
      rw [hc]
      simp [bytesV, List.getElem?_eq_getElem hi, List.getD]) 9 Tryd.underlying9
    rw [this]
    congr 3
    simp only [strOfNums, List.map_map]
    congr 1
    have : ((fun n : Int => UInt8.ofNat n.toNat) ∘ fun c : UInt8 => (c.toNat : Int)) = id := by
      funext c
      simp
    rw [this, List.map_id]
theorem shl_one (bits : Nat) (h : bits < 8) : IntKind.u32.wrap (IntKind.u32.wrap ((2 : Int) ^ min bits 32) - 1) = ((2 ^ bits - 1 : Nat) : Int) := by
  have hp : 2 ^ bits ≤ 2 ^ 7 := Nat.pow_le_pow_right (by decide) (by omega)
  have h1 : 1 ≤ 2 ^ bits := Nat.one_le_two_pow
  have e : min bits 32 = bits := by omega
  have e2 : ((2 : Int) ^ bits) = ((2 ^ bits : Nat) : Int) := by simp
  rw [e, e2, IntKind.wrap_u32', IntKind.wrap_u32']
  omega

set_option maxRecDepth 100000 in
set_option maxHeartbeats 1000000 in
theorem pass_rest (W : World) (xs : List UInt8) (A : Option Addr) (cap : Nat) (v : Value) (M T : Nat) (hlen : xs.length ≤ 34359738368)
    (f : Nat → Value) (code bits : Nat) (out : List UInt8) (ov i : Value) (w : World) (h : AtBit W xs A cap v M T w 0 code bits out ov) (Q : Exit → Act → World → Prop)
    (h2 : ∀ a w', J W xs A cap v M T 2 a w' → Q (.goto 2) a w')
    (hret : ∀ a w', a.tmps.getD 2 undef = .string ⟨out.toArray⟩ → a.tmps.getD 3 undef = .nilIface → a.defers = [] → Below W.heap.size W w' → dec xs = some out → Q .ret a w') :
    (restCode 0).wp Tryd.prog Q (frame f (.slice A xs.length cap) (.map (some M)) ov (.pointer (some ⟨T, 0, none⟩)) i) w := by
  conv => arg 2; whnf
  unfold frame
  have hcode : w.cell? ⟨T, 0, none⟩ = some (.int .u32 (code : Int)) := h.hT.cell 0
  have hbits : w.cell? ⟨T, 1, none⟩ = some (.int .i64 (bits : Int)) := h.hT.cell 1
  have hB := h.hB
  have hown := h.hown
  have hdec : (if 8 ≤ bits ∨ code ≠ 2 ^ bits - 1 then none else some out) = dec xs := h.hdec.out
  have Hcl := Lib.hid h.hcode
  have hol : out.length ≤ 281474976710656 := by have := h.hout; omega
  clear h
  by_cases h8 : 8 ≤ bits
  · rw [if_pos (.inl h8)] at hdec
    have HN := Lib.hid hdec.symm
    clear hdec
    have ht : decide ((8 : Int) ≤ (bits : Int)) = true := by simp; omega
    go_wp2_with fail
    go_quiet (fail)
    go_wp2_with fail
    go_step3
    refine h2 _ _ (J2_intro rfl (below_drewN hB _) HN.out)
  · have ht : decide ((8 : Int) ≤ (bits : Int)) = false := by simp; omega
    have hsh := shl_one bits (by omega)
    by_cases hc : code = 2 ^ bits - 1
    · rw [if_neg (by omega)] at hdec
      have HS := Lib.hid hdec.symm
      clear hdec
      have ht2 : ((code : Int) != ((2 : Int) ^ bits - 1) % 4294967296) = false := by
        rw [bne_eq_false_iff_eq, pow_mod bits (by omega), hc]
      have hconv := fun nq => conv_own hown nq
      have Hc := Lib.hid hc
      clear hc hsh
      go_wp2_with fail
      go_quiet (fail)
      go_wp2_with fail
      exact hret _ _ rfl rfl rfl (below_drewN hB _) HS.out
    · rw [if_pos (.inr hc)] at hdec
      have HN := Lib.hid hdec.symm
      clear hdec
      have ht2 : ((code : Int) != ((2 : Int) ^ bits - 1) % 4294967296) = true := by
        rw [bne_iff_ne, pow_mod bits (by omega)]
        omega
      clear hc hsh
      go_wp2_with fail
      go_quiet (fail)
      go_wp2_with fail
      go_step3
      refine h2 _ _ (J2_intro rfl (below_drewN hB _) HN.out)

theorem pass_bit' (W : World) (xs : List UInt8) (A : Option Addr) (cap : Nat) (v : Value) (M T : Nat) (hlen : xs.length ≤ 34359738368) (hx : BytesAt W A xs) (hv : W.cell? ⟨7, 0, none⟩ = some v) (hg : 7 < W.heap.size)
    (r code bits : Nat) (out : List UInt8) (ov iv : Value) (w : World) (h : AtBit W xs A cap v M T w r code bits out ov) (Q : Exit → Act → World → Prop) (hQ : Outs W xs A cap v M T r Q) (a : Act)
    (ha : a = frame (fun k => a.tmps.getD k undef) (.slice A xs.length cap) (.map (some M)) ov (.pointer (some ⟨T, 0, none⟩)) iv) (hi : iv = .int .i64 ((8 * xs.length - r : Nat) : Int)) :
    bitCode.wp Tryd.prog Q a w := by
  rw [ha, hi]
  exact pass_bit W xs A cap v M T hlen hx hv hg _ r code bits out ov w h Q hQ
/-- the key of a round of the map's making -/
theorem keyOf_sym (s : Nat) (hs : s < 257) : keyOf Tryd.prog 144 (.agg #[.int .u32 (codeOf s : Int), .int .i64 (bitsOf s : Int)]) = some (kl (codeOf s) (bitsOf s)) :=
  keyOf_word _ _ (sym_small hs).1 (sym_small hs).2
set_option maxRecDepth 100000 in
set_option maxHeartbeats 1000000 in
theorem decode_any (xs : List UInt8) (A : Option Addr) (cap : Nat) (v : Value) (w : World) (hlen : xs.length ≤ 34359738368) (hx : BytesAt w A xs) (hv : w.cell? ⟨7, 0, none⟩ = some v) (hg : 7 < w.heap.size) :
    Calls Tryd.prog 111 #[.slice A xs.length cap] w (DecPost w xs v) := by
  have hmm := @run_makeMap Tryd.prog
  have HC := fun W : World => Lib.hid (codes_any W)
  have hix := fun (W : World) (n : Nat) (h : n < 257) => index_tab (w := W) codeL n codeL_len h
  have HIx := Lib.hid hix
  clear hix
  go_enter Tryd.func111, Tryd.ntmps111
  go_wp2_with fail
  refine wp_scope_multi (fun l a w' => ∃ T, J w xs A cap v w.heap.size T l a w') (mu xs.length) ?_ ?_
  · have hz51 : ∀ W : World, (zeroValue 144).run Tryd.prog W = .ok (.agg #[.int .u32 0, .int .i64 0]) W := fun _ => by kernel_rfl
    go_wp2_with fail
    refine (HC _).out.mono ?_
    rintro e w1 ⟨rfl, hb1⟩
    have hM0 := (World.ownsMap_made w Tryd.prog 144 (plainElem (H := Unit) Tryd.prog 3)).kept (only_of_below hb1 none) (by simp)
    have hB0 : Below w.heap.size w w1 := ((Below.refl _ _).alloc (Nat.le_refl _) _).trans (hb1.mono (by simp))
    clear hb1 hmm HC
    go_wp2_with fail
    go_loopw [16] (fun i wr => ∃ k : Nat, k ≤ 257 ∧ i = .int .i64 (k : Int) ∧ wr.ownsMap Tryd.prog 144 (plainElem (H := Unit) Tryd.prog 3) w.heap.size k (knownD k) ∧ Below w.heap.size w wr) (fun i _ => 257 - (intOf i).toNat)
    case atStart => exact ⟨0, Nat.zero_le _, rfl, hM0, hB0⟩
    case round =>
      obtain ⟨k, hk, rfl, hM, hB⟩ := hrel
      clear hM0 hB0
      by_cases hlt : k < 257
      · have hxk := fun W => HIx.out W k hlt
        have hcd : codeL.getD k 0 = codeOf k := rfl
        rw [hcd] at hxk
        clear hcd
        have Hkey := Lib.hid (keyOf_sym k hlt)
        have Hsucc := Lib.hid (known_succ k)
        have hkm : k < maxLen := by unfold maxLen; omega
        go_wp2_with (first
          | (go_at_call 90; refine (bits_yes k _ hlt).mono ?_; rintro e w' ⟨rfl, rfl⟩)
          | (at_mapUpdate; refine wpList_mapUpdate_own _ rfl _ _ _ 142 rfl 144 3 law Tryd.underlying142 _ w.heap.size k _ rfl hM hkm _ _ _ rfl rfl Hkey.out _ [] (plainElem_int Tryd.underlying3 (wf_int (n := k) (by omega))) ?_; intro w2 hM2 hg2))
        go_roundw
        case rel => exact ⟨k + 1, by omega, by go_num, by rw [Hsucc.out]; exact hM2, hB.grown hg2 hB.size (fun j hj => by cases hj; exact Nat.le_refl _)⟩
        case measure => simp [intOf]; omega
      · obtain rfl : k = 257 := by omega
        clear HIx
        go_wp2_with fail
        go_step3
        have hat : AtBit w xs A cap v w.heap.size wr.heap.size (wr.alloc (.cells #[.int .u32 0, .int .i64 0] 144)) (8 * xs.length) 0 0 [] (.slice none 0 0) :=
          ⟨Nat.le_refl _, rfl, by decide, by decide, by simp, ⟨rfl, .inl ⟨rfl, rfl⟩⟩, Blk.new _ _ _, hB.size, hM.alloc _, Nat.le_refl _, hB.alloc hB.size _⟩
        go_step
        go_step
        refine pass_bit' w xs A cap v w.heap.size wr.heap.size hlen hx hv hg (8 * xs.length) 0 0 [] (.slice none 0 0) (.int .i64 0) _ hat _ ⟨?_, ?_, ?_, ?_⟩ _ rfl (by simp)
        · intro a2 w2 h2
          exact ⟨_, h2⟩
        · intro a2 w2 r' code' bits' out' ov' ha2 hat2 hr
          exact ⟨_, ⟨_, _, _, _, _, _, ha2, hat2⟩⟩
        · intro a2 w2 h2
          exact ⟨_, h2⟩
        · intro a2 w2 h2 h3 hd hB hdec
          refine bodyPost_ret (results_tmp2 rfl _ _ _) hd ⟨hB, ?_⟩
          rw [hdec, h2, h3]
  · rintro l a w' ⟨T, hJ⟩
    match l, hJ with
    | 0, hJ =>
      obtain ⟨f, code, bits, out, ov, i, rfl, hat⟩ := hJ
      refine ⟨_, rest_found0, pass_rest w xs A cap v _ _ hlen f code bits out ov i w' hat _ ?_ ?_⟩
      · intro a2 w2 h2
        exact ⟨⟨T, h2⟩, by simp [mu]⟩
      · intro a2 w2 h2 h3 hd hB hdec
        refine bodyPost_ret (results_tmp2 rfl _ _ _) hd ⟨hB, ?_⟩
        rw [hdec, h2, h3]
    | 1, hJ =>
      obtain ⟨f, r, code, bits, out, ov, rfl, hat⟩ := hJ
      refine ⟨_, rest_found1, ?_⟩
      rw [rest_bit]
      refine wp_seq (wp_skip (pass_bit w xs A cap v _ _ hlen hx hv hg f r code bits out ov w' hat _ ⟨?_, ?_, ?_, ?_⟩))
      · intro a2 w2 h2
        exact ⟨⟨T, h2⟩, by simp [mu, frame, intOf]; omega⟩
      · intro a2 w2 r' code' bits' out' ov' ha2 hat2 hr
        refine ⟨⟨T, ⟨_, _, _, _, _, _, ha2, hat2⟩⟩, ?_⟩
        have h1 : intOf (a2.tmps.getD 11 undef) = ((8 * xs.length - r' : Nat) : Int) := by rw [ha2]; rfl
        have h3 := hat.hr
        have h4 := hat2.hr
        simp only [mu]
        rw [h1]
        show _ < 8 * xs.length + 3 - (intOf (Value.int .i64 ((8 * xs.length - r : Nat) : Int))).toNat
        simp only [intOf]
        omega
      · intro a2 w2 h2
        exact ⟨⟨T, h2⟩, by simp [mu, frame, intOf]; omega⟩
      · intro a2 w2 h2 h3 hd hB hdec
        refine bodyPost_ret (results_tmp2 rfl _ _ _) hd ⟨hB, ?_⟩
        rw [hdec, h2, h3]
    | 2, hJ =>
      obtain ⟨f, out, i, rfl, hB, hdec⟩ := hJ
      refine ⟨_, rest_found2, pass_none w xs A cap v _ _ hv hg f out i w' hB _ ?_⟩
      intro a2 w2 h2 h3 hd hB2
      refine bodyPost_ret (results_tmp2 rfl _ _ _) hd ⟨hB2, ?_⟩
      rw [hdec, h2, h3]
end Go.Proofs.YtflmgjidnclegaaDoor.Huff
/-
  The plain laws of the Huffman code: a text's code says it, and what is taken is the code of what it says.
-/
namespace Go.Proofs.YtflmgjidnclegaaDoor.Huff
theorem bitsIn_app (l r : List UInt8) : bitsIn (l ++ r) = bitsIn l + bitsIn r := by simp [bitsIn]
theorem valN_app (l : List UInt8) : ∀ (n : Nat) (r : List UInt8), r.length = n → ∃ c, c < 2 ^ bitsIn r ∧ valN (l ++ r) = valN l * 2 ^ bitsIn r + c := by
  intro n
  induction n with
  | zero =>
    intro r h
    have : r = [] := List.eq_nil_of_length_eq_zero h
    subst this
    exact ⟨0, by simp [bitsIn], by simp [bitsIn]⟩
  | succ n ih =>
    intro r h
    obtain ⟨q, x, rfl⟩ : ∃ q x, r = q ++ [x] := ⟨r.dropLast, r.getLast (by intro e; subst e; simp at h), (List.dropLast_concat_getLast _).symm⟩
    obtain ⟨c, hc, e⟩ := ih q (by simpa using h)
    have hx := byte_ok x
    refine ⟨c * 2 ^ bitsOf x.toNat + codeOf x.toNat, ?_, ?_⟩
    · rw [bitsIn_snoc]
      exact step_lt c _ _ _ hc hx.2.2
    · rw [← List.append_assoc, valN_snoc, e, bitsIn_snoc, Nat.pow_add, Nat.add_mul, Nat.mul_assoc, Nat.add_assoc]
/-- the first so many bits as a number -/
def pre (xs : List UInt8) : Nat → Nat
  | 0 => 0
  | i + 1 => pre xs i * 2 + bitAt xs i
theorem bit_lt (xs : List UInt8) (i : Nat) : bitAt xs i < 2 := Nat.mod_lt _ (by decide)
theorem pre_add (xs : List UInt8) (i : Nat) : ∀ d, ∃ c, c < 2 ^ d ∧ pre xs (i + d) = pre xs i * 2 ^ d + c := by
  intro d
  induction d with
  | zero => exact ⟨0, by simp, by simp⟩
  | succ d ih =>
    obtain ⟨c, hc, e⟩ := ih
    have hb := bit_lt xs (i + d)
    refine ⟨c * 2 + bitAt xs (i + d), by rw [Nat.pow_succ]; omega, ?_⟩
    show pre xs (i + d) * 2 + bitAt xs (i + d) = _
    rw [e, Nat.pow_succ, Nat.add_mul, Nat.mul_assoc, Nat.add_assoc]
theorem pre_div (xs : List UInt8) (i d : Nat) : pre xs (i + d) / 2 ^ d = pre xs i := by
  obtain ⟨c, hc, e⟩ := pre_add xs i d
  rw [e, Nat.add_comm, Nat.add_mul_div_right _ _ (Nat.two_pow_pos d), Nat.div_eq_of_lt hc, Nat.zero_add]
theorem pre_byte (xs : List UInt8) (q : Nat) : pre xs (8 * q + 8) = pre xs (8 * q) * 256 + (xs.getD q 0).toNat := by
  have hb : (xs.getD q 0).toNat < 256 := (xs.getD q 0).toNat_lt
  have h : ∀ k, k < 8 → bitAt xs (8 * q + k) = (xs.getD q 0).toNat / 2 ^ (7 - k) % 2 := by
    intro k hk
    unfold bitAt
    rw [show (8 * q + k) / 8 = q by omega, show (8 * q + k) % 8 = k by omega]
  have h0 := h 0 (by omega)
  have h1 := h 1 (by omega)
  have h2 := h 2 (by omega)
  have h3 := h 3 (by omega)
  have h4 := h 4 (by omega)
  have h5 := h 5 (by omega)
  have h6 := h 6 (by omega)
  have h7 := h 7 (by omega)
  have e : pre xs (8 * q + 8) = ((((((((pre xs (8 * q)) * 2 + bitAt xs (8 * q + 0)) * 2 + bitAt xs (8 * q + 1)) * 2 + bitAt xs (8 * q + 2)) * 2 + bitAt xs (8 * q + 3)) * 2 + bitAt xs (8 * q + 4)) * 2 + bitAt xs (8 * q + 5)) * 2 + bitAt xs (8 * q + 6)) * 2 + bitAt xs (8 * q + 7) := rfl
  rw [e, h0, h1, h2, h3, h4, h5, h6, h7]
  generalize (xs.getD q 0).toNat = b at *
  clear e h h0 h1 h2 h3 h4 h5 h6 h7
  simp only [Nat.reducePow, Nat.reduceSub]
  omega
theorem of_mod (x : Nat) : (UInt8.ofNat (x % 256)).toNat = x % 256 := UInt8.toNat_ofNat_of_lt' (Nat.mod_lt x (by decide : 0 < 256))
theorem outTo_getD (T L n q : Nat) (hq : q < n) : (outTo T L n).getD q 0 = UInt8.ofNat (T / 2 ^ (L - 8 * (q + 1)) % 256) := by
  unfold outTo
  simp [List.getD, hq]
theorem bytes_pre (xs : List UInt8) : xs = outTo (pre xs (8 * xs.length)) (8 * xs.length) xs.length := by
  apply List.ext_getElem
  · rw [outTo_len]
  · intro i h1 h2
    have e : pre xs (8 * xs.length) / 2 ^ (8 * xs.length - 8 * (i + 1)) = pre xs (8 * i + 8) := by
      have := pre_div xs (8 * i + 8) (8 * xs.length - 8 * (i + 1))
      rwa [show 8 * i + 8 + (8 * xs.length - 8 * (i + 1)) = 8 * xs.length by omega] at this
    have h3 : (outTo (pre xs (8 * xs.length)) (8 * xs.length) xs.length)[i] = (outTo (pre xs (8 * xs.length)) (8 * xs.length) xs.length).getD i 0 := by simp [List.getD, List.getElem?_eq_getElem h2]
    rw [h3, outTo_getD _ _ _ _ h1, e, pre_byte]
    have hg : xs.getD i 0 = xs[i] := by simp [List.getD, List.getElem?_eq_getElem h1]
    rw [hg, Nat.mul_comm, Nat.mul_add_mod, Nat.mod_eq_of_lt xs[i].toNat_lt]
    simp
/-- the code as one number -/
theorem enc_eq (l : List UInt8) (b : Nat) (hb : b < 8) (h8 : (bitsIn l + b) % 8 = 0) :
    enc l = outTo (valN l * 2 ^ b + (2 ^ b - 1)) (bitsIn l + b) ((bitsIn l + b) / 8) := by
  have hp : 1 ≤ 2 ^ b := Nat.one_le_two_pow
  unfold enc
  generalize valN l = V
  generalize bitsIn l = L at *
  by_cases hz : L % 8 = 0
  · have : b = 0 := by omega
    subst this
    rw [if_pos hz]
    simp
  · rw [if_neg hz]
    have hq : (L + b) / 8 = L / 8 + 1 := by omega
    rw [hq, outTo_succ, outTo_ext V L (L / 8) b (2 ^ b - 1) (by omega) (by omega)]
    congr 2
    unfold lastOf
    have e0 : L + b - 8 * (L / 8 + 1) = 0 := by omega
    have eb : 8 - L % 8 = b := by omega
    have h1 := mod_ext V (L % 8) b (2 ^ b - 1) (by omega)
    rw [show L % 8 + b = 8 by omega] at h1
    rw [e0, eb, Nat.pow_zero, Nat.div_one, show (256 : Nat) = 2 ^ 8 from rfl, h1]
theorem out_pre (T n : Nat) (hT : T < 2 ^ (8 * n)) : ∀ q, q ≤ n → pre (outTo T (8 * n) n) (8 * q) = T / 2 ^ (8 * n - 8 * q) := by
  intro q
  induction q with
  | zero => intro _; rw [Nat.mul_zero, Nat.sub_zero, Nat.div_eq_of_lt hT]; rfl
  | succ q ih =>
    intro hq
    rw [show 8 * (q + 1) = 8 * q + 8 by omega, pre_byte, ih (by omega), outTo_getD _ _ _ _ (by omega), of_mod]
    have e : 8 * n - 8 * q = (8 * n - 8 * (q + 1)) + 8 := by omega
    rw [e, Nat.pow_add, ← Nat.div_div_eq_div_mul, show (2 : Nat) ^ 8 = 256 from rfl, show 8 * n - (8 * q + 8) = 8 * n - 8 * (q + 1) by omega]
    omega
/-! ### What is taken is the code of what it says -/
theorem go_back (xs : List UInt8) : ∀ (r code bits : Nat) (out u : List UInt8), decGo xs r code bits out = some u → r ≤ 8 * xs.length → code < 2 ^ bits → pre xs (8 * xs.length - r) = valN out * 2 ^ bits + code → 8 * xs.length - r = bitsIn out + bits →
    ∃ b, b < 8 ∧ pre xs (8 * xs.length) = valN u * 2 ^ b + (2 ^ b - 1) ∧ 8 * xs.length = bitsIn u + b := by
  intro r
  induction r with
  | zero =>
    intro code bits out u h _ hc hp hl
    unfold decGo at h
    split at h
    · cases h
    · rename_i hn
      injection h with h
      subst h
      have h2 : code = 2 ^ bits - 1 := by omega
      rw [h2] at hp
      exact ⟨bits, by omega, hp, hl⟩
  | succ r ih =>
    intro code bits out u h hr hc hp hl
    unfold decGo at h
    have hb := bit_lt xs (8 * xs.length - (r + 1))
    have hpre : pre xs (8 * xs.length - r) = pre xs (8 * xs.length - (r + 1)) * 2 + bitAt xs (8 * xs.length - (r + 1)) := by
      rw [show 8 * xs.length - r = (8 * xs.length - (r + 1)) + 1 by omega]; rfl
    have hcode : code * 2 + bitAt xs (8 * xs.length - (r + 1)) < 2 ^ (bits + 1) := by rw [Nat.pow_succ]; omega
    have hnew : pre xs (8 * xs.length - r) = valN out * 2 ^ (bits + 1) + (code * 2 + bitAt xs (8 * xs.length - (r + 1))) := by
      rw [hpre, hp, Nat.pow_succ, Nat.add_mul, Nat.mul_assoc, Nat.add_assoc]
    generalize code * 2 + bitAt xs (8 * xs.length - (r + 1)) = cd at *
    split at h
    · rename_i s hs
      obtain ⟨s1, s2, s3⟩ := find_some hs
      split at h
      · cases h
      · rename_i hne
        have hs8 : (UInt8.ofNat s).toNat = s := UInt8.toNat_ofNat_of_lt' (by show s < 256; omega)
        refine ih 0 0 (out ++ [UInt8.ofNat s]) u h (by omega) (by simp) ?_ ?_
        · rw [valN_snoc, hs8, s2, s3, hnew]; simp
        · rw [bitsIn_snoc, hs8, s3]; omega
    · split at h
      · exact ih _ _ _ _ h (by omega) hcode hnew (by omega)
      · cases h
theorem dec_back {xs u : List UInt8} (h : dec xs = some u) : enc u = xs := by
  obtain ⟨b, hb, hp, hl⟩ := go_back xs _ 0 0 [] u h (Nat.le_refl _) (by simp) (by simp [pre, valN]) (by simp [bitsIn])
  have e := bytes_pre xs
  rw [hp] at e
  rw [enc_eq u b hb (by omega), ← hl, show 8 * xs.length / 8 = xs.length by omega]
  exact e.symm
/-! ### A text's code says it -/
theorem end_sym : bitsOf 256 = 30 ∧ codeOf 256 = 2 ^ 30 - 1 := by decide +kernel
theorem ones_div (a d : Nat) : (2 ^ (a + d) - 1) / 2 ^ d = 2 ^ a - 1 := by
  have h1 : 1 ≤ 2 ^ a := Nat.one_le_two_pow
  have h2 : 1 ≤ 2 ^ d := Nat.one_le_two_pow
  have e : 2 ^ (a + d) - 1 = (2 ^ d - 1) + (2 ^ a - 1) * 2 ^ d := by
    rw [Nat.pow_add, Nat.sub_mul, Nat.one_mul]
    have : 2 ^ d ≤ 2 ^ a * 2 ^ d := Nat.le_mul_of_pos_left _ (by omega)
    omega
  rw [e, Nat.add_mul_div_right _ _ (by omega), Nat.div_eq_of_lt (by omega), Nat.zero_add]
/-- the symbol that comes next -/
def nextSym (l : List UInt8) (k : Nat) : Nat := if k < l.length then (l.getD k 0).toNat else 256
theorem next_lt (l : List UInt8) (k : Nat) : nextSym l k < 257 := by
  unfold nextSym
  split
  · have := (l.getD k 0).toNat_lt; omega
  · omega
/-- the code's first bits, up to a place within the next symbol -/
theorem total_div (l : List UInt8) (b k bits : Nat) (hk : k ≤ l.length) (hb : bits ≤ bitsOf (nextSym l k)) (hi : bitsIn (l.take k) + bits ≤ bitsIn l + b) (hb8 : b < 8) :
    (valN l * 2 ^ b + (2 ^ b - 1)) / 2 ^ (bitsIn l + b - (bitsIn (l.take k) + bits)) = valN (l.take k) * 2 ^ bits + codeOf (nextSym l k) / 2 ^ (bitsOf (nextSym l k) - bits) := by
  have hp : 1 ≤ 2 ^ b := Nat.one_le_two_pow
  by_cases hlt : k < l.length
  · have hn : nextSym l k = (l[k]).toNat := by unfold nextSym; rw [if_pos hlt]; simp [List.getD, List.getElem?_eq_getElem hlt]
    rw [hn] at hb ⊢
    have hsplit : l = l.take (k + 1) ++ l.drop (k + 1) := (List.take_append_drop _ _).symm
    have htk : l.take (k + 1) = l.take k ++ [l[k]] := List.take_succ_eq_append_getElem hlt
    obtain ⟨c3, hc3, e3⟩ := valN_app (l.take (k + 1)) _ (l.drop (k + 1)) rfl
    rw [← hsplit] at e3
    have eL : bitsIn l = bitsIn (l.take k) + bitsOf (l[k]).toNat + bitsIn (l.drop (k + 1)) := by
      have := bitsIn_app (l.take (k + 1)) (l.drop (k + 1))
      rw [← hsplit, htk, bitsIn_snoc] at this
      exact this
    have ev : valN (l.take (k + 1)) = valN (l.take k) * 2 ^ bitsOf (l[k]).toNat + codeOf (l[k]).toNat := by rw [htk, valN_snoc]
    generalize bitsIn (l.drop (k + 1)) = B3 at *
    generalize bitsOf (l[k]).toNat = n at *
    generalize codeOf (l[k]).toNat = cd at *
    generalize valN (l.take k) = V0 at *
    generalize bitsIn (l.take k) = L0 at *
    rw [e3, ev, eL]
    have hd : L0 + n + B3 + b - (L0 + bits) = (B3 + b) + (n - bits) := by omega
    rw [hd, Nat.pow_add, ← Nat.div_div_eq_div_mul]
    have e1 : ((V0 * 2 ^ n + cd) * 2 ^ B3 + c3) * 2 ^ b + (2 ^ b - 1) = (c3 * 2 ^ b + (2 ^ b - 1)) + (V0 * 2 ^ n + cd) * 2 ^ (B3 + b) := by
      rw [Nat.pow_add, Nat.add_mul, Nat.mul_assoc]; omega
    have hsm : c3 * 2 ^ b + (2 ^ b - 1) < 2 ^ (B3 + b) := step_lt c3 B3 b _ hc3 (by omega)
    rw [e1, Nat.add_mul_div_right _ _ (Nat.two_pow_pos _), Nat.div_eq_of_lt hsm, Nat.zero_add]
    have e2 : V0 * 2 ^ n = V0 * 2 ^ bits * 2 ^ (n - bits) := by rw [Nat.mul_assoc, ← Nat.pow_add]; congr 2; omega
    rw [e2, Nat.add_comm, Nat.add_mul_div_right _ _ (Nat.two_pow_pos _), Nat.add_comm]
  · have hn : nextSym l k = 256 := by unfold nextSym; rw [if_neg hlt]
    have ht : l.take k = l := List.take_of_length_le (by omega)
    rw [hn, end_sym.1] at hb
    rw [ht] at hi
    rw [hn, ht, end_sym.1, end_sym.2]
    have hbb : bits ≤ b := by omega
    rw [show bitsIn l + b - (bitsIn l + bits) = b - bits by omega]
    have e1 := ones_div bits (b - bits)
    rw [show bits + (b - bits) = b by omega] at e1
    have e2 := ones_div bits (30 - bits)
    rw [show bits + (30 - bits) = 30 by omega] at e2
    rw [e2]
    have e3 : valN l * 2 ^ b = valN l * 2 ^ bits * 2 ^ (b - bits) := by rw [Nat.mul_assoc, ← Nat.pow_add]; congr 2; omega
    rw [e3, Nat.add_comm, Nat.add_mul_div_right _ _ (Nat.two_pow_pos _), e1, Nat.add_comm]
theorem no_sym {s bits : Nat} (hs : s < 257) (hb : bits < bitsOf s) : findSym (codeOf s / 2 ^ (bitsOf s - bits)) bits = none := by
  cases h : findSym (codeOf s / 2 ^ (bitsOf s - bits)) bits with
  | none => rfl
  | some t =>
    obtain ⟨t1, t2, t3⟩ := find_some h
    exfalso
    have hne : t ≠ s := by rintro rfl; omega
    exact apart t1 hs hne (by omega) (by rw [t3, t2])
theorem go_forth (l : List UInt8) (b : Nat) (hb8 : b < 8) (h8 : 8 * (enc l).length = bitsIn l + b) (hpre : ∀ i, i ≤ bitsIn l + b → pre (enc l) i = (valN l * 2 ^ b + (2 ^ b - 1)) / 2 ^ (bitsIn l + b - i)) :
    ∀ (r k bits : Nat), k ≤ l.length → bits < bitsOf (nextSym l k) → bitsIn (l.take k) + bits + r = bitsIn l + b →
      decGo (enc l) r (codeOf (nextSym l k) / 2 ^ (bitsOf (nextSym l k) - bits)) bits (l.take k) = some l := by
  intro r
  induction r with
  | zero =>
    intro k bits hk hb hr
    have hkl : k = l.length := by
      rcases Nat.lt_or_ge k l.length with hlt | hge
      · exfalso
        have hn : nextSym l k = (l[k]).toNat := by unfold nextSym; rw [if_pos hlt]; simp [List.getD, List.getElem?_eq_getElem hlt]
        have htk : l.take (k + 1) = l.take k ++ [l[k]] := List.take_succ_eq_append_getElem hlt
        have := bitsIn_app (l.take (k + 1)) (l.drop (k + 1))
        rw [List.take_append_drop, htk, bitsIn_snoc] at this
        rw [hn] at hb
        omega
      · omega
    subst hkl
    have hn : nextSym l l.length = 256 := by unfold nextSym; rw [if_neg (by omega)]
    rw [List.take_length] at hr ⊢
    have hbb : bits = b := by omega
    have e2 := ones_div bits (30 - bits)
    rw [show bits + (30 - bits) = 30 by omega] at e2
    rw [hn, end_sym.1, end_sym.2, e2]
    unfold decGo
    rw [if_neg (by omega)]
  | succ r ih =>
    intro k bits hk hb hr
    have hi : 8 * (enc l).length - (r + 1) = bitsIn (l.take k) + bits := by omega
    have d0 := total_div l b k bits hk (by omega) (by omega) hb8
    have d1 := total_div l b k (bits + 1) hk (by omega) (by omega) hb8
    have p0 := hpre (bitsIn (l.take k) + bits) (by omega)
    have p1 := hpre (bitsIn (l.take k) + (bits + 1)) (by omega)
    rw [d0] at p0
    rw [d1] at p1
    have hstep : pre (enc l) (bitsIn (l.take k) + (bits + 1)) = pre (enc l) (bitsIn (l.take k) + bits) * 2 + bitAt (enc l) (bitsIn (l.take k) + bits) := rfl
    have hcode : codeOf (nextSym l k) / 2 ^ (bitsOf (nextSym l k) - bits) * 2 + bitAt (enc l) (bitsIn (l.take k) + bits) = codeOf (nextSym l k) / 2 ^ (bitsOf (nextSym l k) - (bits + 1)) := by
      rw [p0, p1, Nat.pow_succ] at hstep
      have : valN (l.take k) * (2 ^ bits * 2) = valN (l.take k) * 2 ^ bits * 2 := by rw [Nat.mul_assoc]
      omega
    unfold decGo
    rw [hi, hcode]
    by_cases hend : bits + 1 = bitsOf (nextSym l k)
    · have hlt : k < l.length := by
        rcases Nat.lt_or_ge k l.length with h | h
        · exact h
        · exfalso
          have hn : nextSym l k = 256 := by unfold nextSym; rw [if_neg (by omega)]
          rw [hn, end_sym.1] at hend
          have ht : l.take k = l := List.take_of_length_le h
          rw [ht] at hr
          omega
      have hn : nextSym l k = (l[k]).toNat := by unfold nextSym; rw [if_pos hlt]; simp [List.getD, List.getElem?_eq_getElem hlt]
      have htk : l.take (k + 1) = l.take k ++ [l[k]] := List.take_succ_eq_append_getElem hlt
      rw [← hend, Nat.sub_self, Nat.pow_zero, Nat.div_one, hend, find_sym (next_lt l k)]
      have hl8 : (l[k]).toNat < 256 := (l[k]).toNat_lt
      simp only
      rw [if_neg (by rw [hn]; omega), hn]
      have e8 : UInt8.ofNat (l[k]).toNat = l[k] := by simp
      rw [e8, ← htk]
      have hlen : bitsIn (l.take (k + 1)) = bitsIn (l.take k) + (bits + 1) := by rw [htk, bitsIn_snoc, ← hn, hend]
      have hpos : 5 ≤ bitsOf (nextSym l (k + 1)) := (bits_ok (next_lt l (k + 1))).1
      have := ih (k + 1) 0 hlt (by omega) (by rw [hlen]; omega)
      rw [Nat.sub_zero, Nat.div_eq_of_lt (bits_ok (next_lt l (k + 1))).2.2] at this
      exact this
    · rw [no_sym (next_lt l k) (by omega)]
      have h30 := (bits_ok (next_lt l k)).2.1
      simp only
      rw [if_pos (by omega)]
      exact ih k (bits + 1) hk (by omega) (by omega)
theorem enc_forth (l : List UInt8) : dec (enc l) = some l := by
  obtain ⟨b, hb8, h8⟩ : ∃ b, b < 8 ∧ (bitsIn l + b) % 8 = 0 := ⟨(8 - bitsIn l % 8) % 8, by omega, by omega⟩
  have hp : 1 ≤ 2 ^ b := Nat.one_le_two_pow
  have he := enc_eq l b hb8 h8
  have hlen : 8 * (enc l).length = bitsIn l + b := by rw [he, outTo_len]; omega
  have hT : valN l * 2 ^ b + (2 ^ b - 1) < 2 ^ (8 * ((bitsIn l + b) / 8)) := by
    rw [show 8 * ((bitsIn l + b) / 8) = bitsIn l + b by omega]
    exact step_lt _ _ b _ (valN_lt l) (by omega)
  have hfull : pre (enc l) (bitsIn l + b) = valN l * 2 ^ b + (2 ^ b - 1) := by
    have := out_pre _ _ hT ((bitsIn l + b) / 8) (Nat.le_refl _)
    rw [show 8 * ((bitsIn l + b) / 8) = bitsIn l + b by omega, Nat.sub_self, Nat.pow_zero, Nat.div_one, ← he] at this
    exact this
  have hpos : 5 ≤ bitsOf (nextSym l 0) := (bits_ok (next_lt l 0)).1
  have h := go_forth l b hb8 hlen (fun i hi => by
    have := pre_div (enc l) i (bitsIn l + b - i)
    rw [show i + (bitsIn l + b - i) = bitsIn l + b by omega, hfull] at this
    exact this.symm) (8 * (enc l).length) 0 0 (Nat.zero_le _) (by omega) (by simp [bitsIn] at *; omega)
  rw [Nat.sub_zero, Nat.div_eq_of_lt (bits_ok (next_lt l 0)).2.2] at h
  exact h
end Go.Proofs.YtflmgjidnclegaaDoor.Huff
