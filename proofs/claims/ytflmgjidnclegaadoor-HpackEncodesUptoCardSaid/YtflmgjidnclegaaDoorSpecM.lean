/-
  Rows of headers in memory; the walk of parleyref.Headers, which copies one.
-/
import Derived.Test.YtflmgjidnclegaaDoorTabM
import Derived.Laws.MakeOwn
import Derived.Outline
import Derived.Test.YtflmgjidnclegaaDoorHuffDM
namespace Go.Proofs.YtflmgjidnclegaaDoor.Tab
open Go.RowKit
/-- a header with its mark -/
abbrev Hn := ByteArray × ByteArray × Bool
def hnc (h : Hn) : List Value := [.string h.1, .string h.2.1, .bool h.2.2]
def hncs (L : List Hn) : List Value := L.flatMap hnc
theorem hncs_length (L : List Hn) : (hncs L).length = L.length * 3 := by
  induction L with
  | nil => rfl
  | cons h t ih => simp only [hncs, List.flatMap_cons, List.length_append, List.length_cons] at *; rw [ih]; show 3 + _ = _; omega
theorem hncs_append (a b : List Hn) : hncs (a ++ b) = hncs a ++ hncs b := by simp [hncs]
theorem hncs_one (L : List Hn) : ∀ u ∈ hncs L, u.oneCell' = true := by
  intro u hu
  simp only [hncs, List.mem_flatMap] at hu
  obtain ⟨h, _, hh⟩ := hu
  simp only [hnc, List.mem_cons, List.not_mem_nil, or_false] at hh
  rcases hh with rfl | rfl | rfl <;> rfl
theorem hncs_at (L : List Hn) (k : Nat) (h : Hn) (hk : L[k]? = some h) : (hncs L)[k * 3]? = some (.string h.1) ∧ (hncs L)[k * 3 + 1]? = some (.string h.2.1) ∧ (hncs L)[k * 3 + 2]? = some (.bool h.2.2) := by
  obtain ⟨hlt, rfl⟩ := List.getElem?_eq_some_iff.1 hk
  have e : hncs L = hncs (L.take k) ++ hnc L[k] ++ hncs (L.drop (k + 1)) := by
    have hd : L.drop k = L[k] :: L.drop (k + 1) := List.drop_eq_getElem_cons hlt
    have h1 := hncs_append (L.take k) (L.drop k)
    rw [List.take_append_drop] at h1
    rw [h1, hd, List.append_assoc]
    rfl
  have hl : (hncs (L.take k)).length = k * 3 := by rw [hncs_length, List.length_take]; congr 1; omega
  have g : ∀ t, t < 3 → (hncs L)[k * 3 + t]? = (hnc L[k])[t]? := fun t ht => by
    rw [e, List.append_assoc, List.getElem?_append_right (by omega), hl, Nat.add_sub_cancel_left, List.getElem?_append_left (by show t < 3; exact ht)]
  exact ⟨by simpa [hnc] using g 0 (by omega), by simpa [hnc] using g 1 (by omega), by simpa [hnc] using g 2 (by omega)⟩
theorem add_pl (b o j : Nat) : (⟨b, o, none⟩ : Addr).add j = ⟨b, o + j, none⟩ := by
  unfold Addr.add
  split
  · rename_i h; rw [h, Nat.add_zero]
  · rfl
/-- the headers lie at A -/
def HnAt (w : World) (A : Option Addr) (L : List Hn) : Prop := ∀ (i : Nat) (h : Hn), L[i]? = some h → ∃ b off, A = some ⟨b, off, none⟩ ∧ b < w.heap.size ∧
  w.cell? ⟨b, off + i * 3, none⟩ = some (.string h.1) ∧ w.cell? ⟨b, off + i * 3 + 1, none⟩ = some (.string h.2.1) ∧ w.cell? ⟨b, off + i * 3 + 2, none⟩ = some (.bool h.2.2)
theorem HnAt.below {w w' : World} {A : Option Addr} {L : List Hn} (h : HnAt w A L) (hb : Below w.heap.size w w') : HnAt w' A L := by
  intro i c hi
  obtain ⟨b, off, hA, hlt, c0, c1, c2⟩ := h i c hi
  have k : ∀ o v, w.cell? ⟨b, o, none⟩ = some v → w'.cell? ⟨b, o, none⟩ = some v := fun o v hv => (Below.cell hb (p := ⟨b, o, none⟩) hlt).trans hv
  exact ⟨b, off, hA, Nat.lt_of_lt_of_le hlt hb.size, k _ _ c0, k _ _ c1, k _ _ c2⟩
theorem own_slice {w : World} {base : Nat} {e : TypeId} {size n : Nat} {v : Value} {xs : List Value} (h : w.ownsRow base e size v n xs) : ∃ A c, v = .slice A n c ∧ (0 < n → ∃ g, A = some ⟨g, 0, none⟩) ∧ n ≤ maxLen := by
  rcases h.2 with ⟨rfl, rfl⟩ | ⟨g, cap, cur, rfl, _, _, h1, h2, _⟩
  · exact ⟨none, 0, rfl, fun h => absurd h (by omega), Nat.zero_le _⟩
  · exact ⟨_, _, rfl, fun _ => ⟨g, rfl⟩, Nat.le_trans h1 h2⟩
theorem HnAt.of_own {w : World} {base n c : Nat} {A : Option Addr} {L : List Hn} (h : w.ownsRow base 23 3 (.slice A n c) n (hncs L)) (k : Nat) : HnAt w A (L.take k) := by
  intro i x hi
  have hi' : L[i]? = some x := by
    rw [List.getElem?_take] at hi
    split at hi
    · exact hi
    · cases hi
  have hil := (List.getElem?_eq_some_iff.1 hi').1
  have hn : 0 < n := by have := h.1; rw [hncs_length] at this; omega
  obtain ⟨g, cap, hv, _, hlt⟩ := h.form hn
  injection hv with hA _ _
  subst hA
  obtain ⟨a, b, c'⟩ := hncs_at L i x hi'
  have r := fun t u hu => h.cells (g := g) rfl t u hu
  refine ⟨g, 0, rfl, hlt, ?_, ?_, ?_⟩
  · have := r _ _ a; rwa [add_pl] at this
  · have := r _ _ b; rwa [add_pl] at this
  · have := r _ _ c'; rwa [add_pl] at this
def HdrsEnd (w : World) (L : List Hn) (e : Ending) (w' : World) : Prop := ∃ (A : Option Addr) (c : Nat), e = .returned (.slice A L.length c) ∧ w'.ownsRow w.heap.size 23 3 (.slice A L.length c) L.length (hncs L) ∧ Below w.heap.size w w'
set_option maxRecDepth 100000 in
set_option maxHeartbeats 1000000 in
theorem hdrs_any (A : Option Addr) (cap : Nat) (L : List Hn) (hL : L.length ≤ 4194304) (w : World) (hA : HnAt w A L) :
    Calls Tryd.prog 39 #[.slice A L.length cap] w fun e w' => HdrsEnd w L e w' := by
  obtain ⟨i, hi, hi0, hi1, hi2⟩ := info_parts infoHd
  have HI := Lib.hid hi
  have hmk : ∀ W : World, (Instr.makeSlice 51 (.int .i64 0) (.int .i64 (L.length : Int))).run Tryd.prog W = .ok (.slice (some ⟨W.heap.size, 0, none⟩) 0 L.length) (W.alloc (.cells (madeCells (Value.agg #[.string ByteArray.empty, .string ByteArray.empty, .bool false]).cells (L.length * 3)) 23)) := by
    intro W
    have := run_make_rowN (P := Tryd.prog) 51 23 i (.agg #[.string ByteArray.empty, .string ByteArray.empty, .bool false]) Tryd.underlying51 hi hi0 .i64 .i64 0 L.length (Nat.zero_le _) (by rw [hi2]; omega) (by omega) W
    rw [hi1] at this
    exact this
  have hO0 : (w.alloc (.cells (madeCells (Value.agg #[.string ByteArray.empty, .string ByteArray.empty, .bool false]).cells (L.length * 3)) 23)).ownsRow w.heap.size 23 3 (.slice (some ⟨w.heap.size, 0, none⟩) 0 L.length) 0 [] :=
    World.ownsRow_made w _ _ (Nat.le_refl _) (by unfold maxLen; omega) (size_madeCells _ _)
  have hB0 := (Below.refl w.heap.size w).alloc (Nat.le_refl _) (.cells (madeCells (Value.agg #[.string ByteArray.empty, .string ByteArray.empty, .bool false]).cells (L.length * 3)) 23)
  have H0 := Lib.hid hO0
  have HB0 := Lib.hid hB0
  have HA := Lib.hid hA
  clear hO0 hB0 hi hA
  generalize madeCells (Value.agg #[.string ByteArray.empty, .string ByteArray.empty, .bool false]).cells (L.length * 3) = MC at *
  go_enter Tryd.func39, Tryd.ntmps39
  go_wp2_with fail
  clear hmk
  go_loopw [3, 4] (fun v i wr => ∃ (k : Nat) (A' : Option Addr) (c' : Nat), i = .int .i64 (k : Int) ∧ v = .slice A' k c' ∧ k ≤ L.length ∧ wr.ownsRow w.heap.size 23 3 (.slice A' k c') k (hncs (L.take k)) ∧ Below w.heap.size w wr) (fun _ i _ => L.length - (intOf i).toNat)
  case atStart => exact ⟨0, _, _, rfl, rfl, Nat.zero_le _, H0.out, HB0.out⟩
  case round =>
    clear H0 HB0
    obtain ⟨k, A', c', rfl, rfl, hk, hO, hB⟩ := hrel
    have HO := Lib.hid hO
    have HB := Lib.hid hB
    by_cases hlt : k < L.length
    · obtain ⟨x, hx⟩ : ∃ x, L[k]? = some x := ⟨_, List.getElem?_eq_getElem hlt⟩
      obtain ⟨b, off, rfl, _, c0, c1, c2⟩ := (HA.out.below hB) k x hx
      have hd : decide ((k : Int) < (L.length : Int)) = true := decide_eq_true (by omega)
      have HR : Hid (Reads (wr.alloc (.cells #[.string x.1, .string x.2.1, .bool x.2.2] 23)) (wr.heap.size + 1) 3 (some ⟨wr.heap.size, 0, none⟩) 1 (hnc x)) := Lib.hid ⟨rfl, fun _ => ⟨_, rfl, Nat.lt_succ_self _, fun j u hu => by
        rw [add_pl, Nat.zero_add]
        exact ((Blk.new wr 23 #[.string x.1, .string x.2.1, .bool x.2.2]).cell j).trans (by simpa [hnc] using hu)⟩⟩
      have HON : Hid (∀ u ∈ hnc x, u.oneCell' = true) := Lib.hid (by
        intro u hu
        simp only [hnc, List.mem_cons, List.not_mem_nil, or_false] at hu
        rcases hu with rfl | rfl | rfl <;> rfl)
      have HOA := Lib.hid (hO.alloc (.cells #[.string x.1, .string x.2.1, .bool x.2.2] 23))
      have HBA := Lib.hid (hB.alloc hB.size (.cells #[.string x.1, .string x.2.1, .bool x.2.2] 23))
      have HTK : Hid (hncs (L.take (k + 1)) = hncs (L.take k) ++ hnc x) := Lib.hid (by
        obtain ⟨_, rfl⟩ := List.getElem?_eq_some_iff.1 hx
        rw [List.take_succ_eq_append_getElem hlt, hncs_append]
        simp [hncs])
      clear hO hB hx HO HB
      go_wp2_with (refine wpList_append_any _ rfl (.tmp 14) (.tmp 19) 51 rfl w.heap.size 23 i (.agg #[.string ByteArray.empty, .string ByteArray.empty, .bool false]) 3 40 Tryd.underlying51 HI.out hi0 hi1 hi2 rfl (by decide) _ k (hncs (L.take k)) rfl HOA.out (wr.heap.size + 1) (some ⟨wr.heap.size, 0, none⟩) 1 1 (hnc x) rfl HR.out HON.out (by unfold maxLen; omega) (by omega) HBA.out.size ?_; intro v6 w6 ho6 hg6 hat6)
      obtain ⟨A6, c6, rfl, _⟩ := own_slice ho6
      have hB6 := HBA.out.grown hg6 HBA.out.size (fun g hg => (HOA.out.lt g hg).1)
      rw [← HTK.out] at ho6
      have HO6 := Lib.hid ho6
      clear ho6 hg6 hat6 c0 c1 c2
      go_wp2_with fail
      go_roundw
      case rel => exact ⟨k + 1, A6, c6, by go_num, rfl, by omega, HO6.out, hB6⟩
      case measure => simp [intOf]; omega
    · have hkl : k = L.length := by omega
      have hd : decide ((k : Int) < (L.length : Int)) = false := decide_eq_false (by omega)
      have HK := Lib.hid hkl
      clear hO hB hkl
      go_wp2_with fail
      go_ret
      have hO := HO.out
      have hk := HK.out
      subst hk
      rw [List.take_of_length_le (Nat.le_refl _)] at hO
      exact ⟨A', c', rfl, hO, HB.out⟩
end Go.Proofs.YtflmgjidnclegaaDoor.Tab
/-
  The header lists' code in plain words: numbers with a prefix, texts, blocks; what an encoder writes, what a decoder reads.
-/
namespace Go.Proofs.YtflmgjidnclegaaDoor.Hpk
open Huff (enc dec bitsIn)
open Tab (Hd hsz tot Hn shr addQ getAt findR)
/-- a number's further bytes -/
def intTail (n : Nat) : List UInt8 := if n < 128 then [UInt8.ofNat n] else UInt8.ofNat (n % 128 + 128) :: intTail (n / 128)
termination_by n
decreasing_by omega
/-- a number with a prefix -/
def putInt (first bits n : Nat) : List UInt8 :=
  if n < 2 ^ bits - 1 then [UInt8.ofNat (first + n)] else UInt8.ofNat (first + (2 ^ bits - 1)) :: intTail (n - (2 ^ bits - 1))
/-- a text -/
def putText (s : ByteArray) : List UInt8 :=
  if (bitsIn s.data.toList + 7) / 8 < s.size then putInt 128 7 (enc s.data.toList).length ++ enc s.data.toList else putInt 0 7 s.size ++ s.data.toList
/-- what a decoder may say -/
inductive Er
  | long | end_ | huff | index | list | table | gone
  deriving DecidableEq
/-- from the i-th byte on -/
def intGo (xs : List UInt8) : Nat → Nat → Nat → Except Er (Nat × Nat)
  | 0, _, _ => .error .long
  | f + 1, i, n =>
    if i = xs.length then .error .end_ else
      let x := (xs.getD i 0).toNat
      let n' := n + x % 128 * 2 ^ (7 * (i - 1))
      if 128 ≤ x then intGo xs f (i + 1) n' else if n' ≤ 2147483647 then .ok (n', i + 1) else .error .long
/-- the number that bytes begin with, and its bytes -/
def getInt (bits : Nat) (xs : List UInt8) : Except Er (Nat × Nat) :=
  if xs.length = 0 then .error .end_ else
    let n := (xs.getD 0 0).toNat % 2 ^ bits
    if n < 2 ^ bits - 1 then .ok (n, 1) else intGo xs 5 1 n
/-- the text that bytes begin with, and its bytes -/
def getText (xs : List UInt8) : Except Er (ByteArray × Nat) :=
  match getInt 7 xs with
  | .error e => .error e
  | .ok (n, i) =>
    if 16384 < n then .error .long else if xs.length < i + n then .error .end_ else
      if 128 ≤ (xs.getD 0 0).toNat then
        match dec ((xs.drop i).take n) with
        | some s => .ok (⟨s.toArray⟩, i + n)
        | none => .error .huff
      else .ok (⟨((xs.drop i).take n).toArray⟩, i + n)
/-- a decoder's state within a block -/
structure DS where
  rest : List UInt8
  out : List Hn
  size : Nat
  Q : List Hd
  m : Nat
def number (bits : Nat) (s : DS) : Except Er (Nat × DS) :=
  match getInt bits s.rest with
  | .error e => .error e
  | .ok (n, i) => .ok (n, { s with rest := s.rest.drop i })
def text (s : DS) : Except Er (ByteArray × DS) :=
  match getText s.rest with
  | .error e => .error e
  | .ok (t, i) => .ok (t, { s with rest := s.rest.drop i })
def header (s : DS) (i : Nat) : Except Er Hd :=
  match getAt s.Q i with
  | some h => .ok h
  | none => .error .index
def tell (s : DS) (h : Hn) : Except Er DS :=
  let z := s.size + hsz (h.1, h.2.1)
  if 16384 < z then .error .list else .ok { s with size := z, out := s.out ++ [h] }
def nameAt (s : DS) (i : Nat) : Except Er (ByteArray × DS) :=
  if 0 < i then
    match header s i with
    | .error e => .error e
    | .ok h => .ok (h.1, s)
  else text s
def named (bits : Nat) (s : DS) : Except Er (Hd × DS) :=
  match number bits s with
  | .error e => .error e
  | .ok (i, s1) =>
    match nameAt s1 i with
    | .error e => .error e
    | .ok (n, s2) =>
      match text s2 with
      | .error e => .error e
      | .ok (v, s3) => .ok ((n, v), s3)
/-- what stands at a block's place is read -/
def step (limit : Nat) (s : DS) : Except Er DS :=
  let x := (s.rest.getD 0 0).toNat
  if 128 ≤ x then
    match number 7 s with
    | .error e => .error e
    | .ok (i, s1) =>
      match header s1 i with
      | .error e => .error e
      | .ok h => tell s1 (h.1, h.2, false)
  else if 64 ≤ x then
    match named 6 s with
    | .error e => .error e
    | .ok (h, s1) =>
      match tell s1 (h.1, h.2, false) with
      | .error e => .error e
      | .ok s2 => .ok { s2 with Q := addQ s2.m h s2.Q }
  else if 32 ≤ x then
    match number 5 s with
    | .error e => .error e
    | .ok (n, s1) => if s1.out ≠ [] ∨ limit < n then .error .table else .ok { s1 with Q := shr (n : Int) s1.Q, m := n }
  else if 16 ≤ x then
    match named 4 s with
    | .error e => .error e
    | .ok (h, s1) => tell s1 (h.1, h.2, true)
  else
    match named 4 s with
    | .error e => .error e
    | .ok (h, s1) => tell s1 (h.1, h.2, false)
/-- a block's headers; where an error comes: it, and the table as it then is -/
def run (limit : Nat) : Nat → DS → Except (Er × DS) DS
  | 0, s => .ok s
  | f + 1, s =>
    if s.rest = [] then .ok s else
      match step limit s with
      | .error e => .error (e, s)
      | .ok s' => run limit f s'
/-- an encoder's table, and the sizes that are to be told -/
structure ES where
  Q : List Hd
  m : Nat
  least : Nat
  asked : Bool
def sizes (s : ES) : List UInt8 := if s.asked then (if s.least < s.m then putInt 32 5 s.least else []) ++ putInt 32 5 s.m else []
/-- one header -/
def one (m : Nat) (Q : List Hd) (h : Hn) : List UInt8 × List Hd :=
  let r := findR h.1 h.2.1 Q
  if r.2 = true ∧ h.2.2 = false then (putInt 128 7 r.1, Q) else
    let tail := (if r.1 = 0 then putText h.1 else []) ++ putText h.2.1
    if h.2.2 = true then (putInt 16 4 r.1 ++ tail, Q) else if m < hsz (h.1, h.2.1) then (putInt 0 4 r.1 ++ tail, Q) else (putInt 64 6 r.1 ++ tail, addQ m (h.1, h.2.1) Q)
/-- a list -/
def many (m : Nat) : List Hd → List Hn → List UInt8 × List Hd
  | Q, [] => ([], Q)
  | Q, h :: L => ((one m Q h).1 ++ (many m (one m Q h).2 L).1, (many m (one m Q h).2 L).2)
def encode (s : ES) (L : List Hn) : List UInt8 × ES := (sizes s ++ (many s.m s.Q L).1, { s with Q := (many s.m s.Q L).2, asked := false })
end Go.Proofs.YtflmgjidnclegaaDoor.Hpk
