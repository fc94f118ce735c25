/-
  The walk of huff.Encode: the codes of a text, packed.
-/
import Derived.Test.YtblenefhoidhaaaDoorHuffPack
import Derived.StillTailTactics
import Derived.Deep.RegionHeld3
namespace Go.Proofs.YtblenefhoidhaaaDoor.Huff
open Go.RowKit
/-- append of one byte to a row of the call's own -/
theorem append_byte {ops : Array Oper} {rest : List Oper} {o : Oper} {a : Act} {Q : Exit → Act → World → Prop} (W : World) (b : Int) (hgd : o.guard = none) (s x : Operand)
    (ho : o.op = .call { callee := .builtin .append, args := #[s, x], argTypes := #[32, 32] }) (base n : Nat) (v : Value) (xs : List Value) (hs : a.eval s = v) (hown : W.ownsRow base 5 1 v n xs) (c : Nat)
    (hx : a.eval x = .slice (some ⟨W.heap.size, 0, none⟩) 1 c) (hn : n + 1 ≤ 140737488355328) (hbase : base ≤ W.heap.size)
    (h : ∀ v' w', w'.ownsRow base 5 1 v' (n + 1) (xs ++ [.int .u8 b]) → (W.alloc (.cells #[.int .u8 b] 5)).grownBy w' v.ownBlock → wpList Tryd.prog ops Q rest (a.put o.dst v') w') :
    wpList Tryd.prog ops Q (o :: rest) a (W.alloc (.cells #[.int .u8 b] 5)) := by
  obtain ⟨i, hi, hi0, hi1, hi2⟩ := info_parts (P := Tryd.prog) (e := 5) (z := .int .u8 0) (size := 1) (bytes := 1) (by kernel_rfl)
  refine wpList_append_own _ hgd s x 32 ho base 5 i (.int .u8 0) 1 1 Tryd.underlying32 hi hi0 hi1 hi2 rfl (by decide) v n xs hs (hown.alloc _) ⟨W.heap.size, 0, none⟩ 1 c [.int .u8 b] hx rfl (cell_one_new _ _ _) ?_ (by unfold maxLen; omega) (by omega) (by simp; omega) ?_
  · intro u hu
    simp only [List.mem_singleton] at hu
    subst hu
    rfl
  · intro v' w' h1 h2 _
    exact h v' w' h1 h2
theorem step_append_byte {ops : Array Oper} {o : Oper} {a : Act} {K : Act → World → Prop} {Q : Exit → Act → World → Prop} {E : Prop} (W : World) (b : Int) (g : Nat) (hg : W.heap[g]? = some (.cells #[.int .u8 b] 5 (0, 0))) (hgd : o.guard = none) (s x : Operand)
    (ho : o.op = .call { callee := .builtin .append, args := #[s, x], argTypes := #[32, 32] }) (base n : Nat) (v : Value) (xs : List Value) (hs : a.eval s = v) (hown : W.ownsRow base 5 1 v n xs) (c : Nat)
    (hx : a.eval x = .slice (some ⟨g, 0, none⟩) 1 c) (hn : n + 1 ≤ 140737488355328) (hbase : base ≤ W.heap.size)
    (h : ∀ v' w', w'.ownsRow base 5 1 v' (n + 1) (xs ++ [.int .u8 b]) → W.grownBy w' v.ownBlock → K (a.put o.dst v') w') :
    if Region.wanted o (yielded ops a.tmps) = true then Oper.wp Tryd.prog o a W K Q else E := by
  obtain ⟨i, hi, hi0, hi1, hi2⟩ := info_parts (P := Tryd.prog) (e := 5) (z := .int .u8 0) (size := 1) (bytes := 1) (by kernel_rfl)
  rw [if_pos (by simp [Region.wanted, hgd])]
  refine wp_append_own W s x 32 ho base 5 i (.int .u8 0) 1 1 Tryd.underlying32 hi hi0 hi1 hi2 rfl (by decide) v n xs hs hown ⟨g, 0, none⟩ 1 c [.int .u8 b] hx rfl ?_ ?_ (by unfold maxLen; omega) (by omega) hbase ?_
  · intro j u hu
    have : j = 0 ∧ u = .int .u8 b := by
      cases j with
      | zero => simpa [eq_comm] using hu
      | succ j => simp at hu
    obtain ⟨rfl, rfl⟩ := this
    exact cell_of_row W g 0 _ _ _ hg
  · intro u hu
    simp only [List.mem_singleton] at hu
    subst hu
    rfl
  · intro v' w' h1 h2 _
    exact h v' w' h1 h2
theorem own_ge {w : World} {base : Nat} {e : TypeId} {size n : Nat} {v : Value} {xs : List Value} (h : w.ownsRow base e size v n xs) : ∀ k, v.ownBlock = some k → base ≤ k := by
  intro k hk
  rcases h.2 with ⟨rfl, _⟩ | ⟨g, cap, cur, rfl, hg, _⟩
  · simp [Value.ownBlock] at hk
  · simp [Value.ownBlock] at hk
    omega
set_option maxRecDepth 100000 in
set_option maxHeartbeats 400000 in
theorem encode_any (s : ByteArray) (w : World) (hs : s.size ≤ 34359738368) :
    Calls Tryd.prog 13 #[.string s] w fun e w' => ∃ v, e = .returned v ∧ w'.ownsRow w.heap.size 5 1 v (enc s.data.toList).length (bytesV (enc s.data.toList)) ∧ Below w.heap.size w w' := by
  obtain ⟨E, hE⟩ : ∃ E, E = enc s.data.toList := ⟨_, rfl⟩
  rw [← hE]
  have HE := Lib.hid hE
  clear hE
  have hz := zero_tab
  generalize hT0 : tab (List.replicate 257 0) = T0 at hz
  have HT0 := Lib.hid hT0
  clear hT0
  have hmk : ∀ W : World, (Instr.makeSlice 32 (.int .i64 0) (.int .i64 (s.size : Int))).run Tryd.prog W = .ok (.slice (some ⟨W.heap.size, 0, none⟩) 0 s.size) (W.alloc (.cells (madeCells #[.int .u8 0] s.size) 5)) := by
    obtain ⟨i, hi, hi0, hi1, hi2⟩ := info_parts (P := Tryd.prog) (e := 5) (z := .int .u8 0) (size := 1) (bytes := 1) (by kernel_rfl)
    intro W
    have := run_make_rowN (P := Tryd.prog) 32 5 i (.int .u8 0) Tryd.underlying32 hi hi0 .i64 .i64 0 s.size (Nat.zero_le _) (by rw [hi2]; omega) (by omega) W
    rw [hi1, Nat.mul_one] at this
    exact this
  go_enter Tryd.func13, Tryd.ntmps13
  go_wp2_with fail
  refine (codes_any w).mono ?_
  rintro e w1 ⟨rfl, hb1⟩
  have hi44 := info_tab codeL codeL_len
  have hold : T0.size = (tab codeL).size := by rw [← HT0.out]; simp [tab_size, codeL_len]
  have hone : (tab codeL).all (·.oneCell') = true := Array.all_eq_true_iff_forall_mem.2 (fun v hv => one_cell _ v (by simpa using hv))
  go_wp2_with (refine wpList_store_row rfl 44 _ _ rfl w1.heap.size (tab codeL) rfl rfl 44 T0 (heap_alloc_new w1 _) hi44 hold hone ?_; rw [World.setRow_alloc_new])
  have hT0 : Blk ((w1.alloc (.cells (tab codeL) 44)).alloc (.cells (madeCells #[.int .u8 0] s.size) 5)) w1.heap.size 44 (tab codeL) := (Blk.new _ _ _).alloc _
  have hO0 : ((w1.alloc (.cells (tab codeL) 44)).alloc (.cells (madeCells #[.int .u8 0] s.size) 5)).ownsRow w.heap.size 5 1 (.slice (some ⟨w1.heap.size + 1, 0, none⟩) 0 s.size) 0 (bytesV (outTo 0 0 0)) :=
    ⟨rfl, Or.inr ⟨w1.heap.size + 1, s.size, madeCells #[.int .u8 0] s.size, rfl, by have := hb1.size; omega, by
      have := heap_alloc_new (w1.alloc (.cells (tab codeL) 44)) (.cells (madeCells #[.int .u8 0] s.size) 5)
      simpa using this, Nat.zero_le _, by unfold maxLen; omega, by simp [madeCells], by simp [bytesV, outTo]⟩⟩
  have hB0 : Below w.heap.size w ((w1.alloc (.cells (tab codeL) 44)).alloc (.cells (madeCells #[.int .u8 0] s.size) 5)) := (hb1.alloc hb1.size _).alloc (by have := hb1.size; simp; omega) _
  clear hmk hz hi44 hold hone HT0
  go_loopw [4, 5, 6, 16] (fun o h m i wr => ∃ (k : Nat), k ≤ s.size ∧ i = .int .i64 (k : Int) ∧ h = .int .u64 (valN (s.data.toList.take k) % 2 ^ (bitsIn (s.data.toList.take k) % 8) : Nat) ∧ m = .int .i64 (bitsIn (s.data.toList.take k) % 8 : Nat) ∧
      wr.ownsRow w.heap.size 5 1 o (bitsIn (s.data.toList.take k) / 8) (bytesV (outTo (valN (s.data.toList.take k)) (bitsIn (s.data.toList.take k)) (bitsIn (s.data.toList.take k) / 8))) ∧ Blk wr w1.heap.size 44 (tab codeL) ∧ Below w.heap.size w wr)
    (fun _ _ _ i _ => s.size - (intOf i).toNat)
  case atStart => exact ⟨0, Nat.zero_le _, rfl, rfl, rfl, by simpa [bitsIn, valN] using hO0, hT0, hB0⟩
  case round =>
    obtain ⟨k, hk, rfl, rfl, rfl, hO, hT, hB⟩ := hrel
    clear hO0 hT0 hB0
    by_cases hlt : k < s.size
    · have hv := valN_snoc (s.data.toList.take k) s[k]
      have hbi := bitsIn_snoc (s.data.toList.take k) s[k]
      rw [← take_snoc s k hlt] at hv hbi
      have hc : s[k].toNat < 257 := by have := s[k].toNat_lt; omega
      have hc8 : s[k].toNat < 256 := s[k].toNat_lt
      obtain ⟨hn5, hn30, hcode⟩ := bits_ok hc
      have hcell : wr.cell? ⟨w1.heap.size, s[k].toNat, none⟩ = some (.int .u32 (codeOf s[k].toNat : Nat)) := (hT.cell _).trans (tab_at _ _ (by rw [codeL_len]; exact hc))
      have hLk : bitsIn (s.data.toList.take k) ≤ 30 * k := Nat.le_trans (bitsIn_le _) (Nat.mul_le_mul_left _ (List.length_take_le _ _))
      generalize hV : valN (s.data.toList.take k) = V at *
      generalize hL : bitsIn (s.data.toList.take k) = L at *
      have HV := Lib.hid hv
      have HL := Lib.hid hbi
      have Hcode := Lib.hid hcode
      clear hv hbi hV hL hcode
      have hm0 : L % 8 < 8 := Nat.mod_lt _ (by decide)
      have hh : V % 2 ^ (L % 8) < 128 := Nat.lt_of_lt_of_le (Nat.mod_lt _ (Nat.two_pow_pos _)) (Nat.pow_le_pow_right (by decide) (by omega : L % 8 ≤ 7))
      generalize hm : L % 8 = m at *
      generalize hhv : V % 2 ^ m = hv at *
      have Hm := Lib.hid hm
      have Hh := Lib.hid hhv
      clear hm hhv
      have hbits := fun W => bits_yes s[k].toNat W hc
      have HBits := Lib.hid hbits
      clear hbits
      generalize bitsOf s[k].toNat = n at *
      have hcl : codeOf s[k].toNat < 1073741824 := Nat.lt_of_lt_of_le Hcode.out (Nat.pow_le_pow_right (by decide) hn30)
      generalize codeOf s[k].toNat = c at *
      have hmn : ((m : Int) + (n : Int)) ≤ 37 := by omega
      go_wp2_with fail
      refine (HBits.out _).mono ?_
      rintro e w' ⟨rfl, rfl⟩
      go_wp2_with fail
      go_quiet (fail)
      rw [or_step hv n c hh hn30 Hcode.out]
      have hx : hv * 2 ^ n + c = (V * 2 ^ n + c) % 2 ^ (m + n) := by rw [mod_ext _ _ _ _ Hcode.out, Hh.out]
      have hx37 : hv * 2 ^ n + c < 2 ^ (m + n) := by rw [hx]; exact Nat.mod_lt _ (Nat.two_pow_pos _)
      have hx64 : hv * 2 ^ n + c < 18446744073709551616 := Nat.lt_of_lt_of_le hx37 (Nat.pow_le_pow_right (by decide) (by omega : m + n ≤ 64))
      have HX := Lib.hid hx
      clear hx hx37
      generalize hv * 2 ^ n + c = x at *
      have hO' : (wr.drewN nq).ownsRow w.heap.size 5 1 u4 (L / 8) (bytesV (outTo (V * 2 ^ n + c) (L + n) (L / 8))) := by
        rw [outTo_ext V L (L / 8) n c (by omega) Hcode.out]
        exact hO
      have hT' : Blk (wr.drewN nq) w1.heap.size 44 (tab codeL) := hT
      have hB' : Below w.heap.size w (wr.drewN nq) := below_drewN hB nq
      clear hO hT hB hcell hh
      generalize wr.drewN nq = wo at *
      have hLm := Hm.out
      go_wp2_with fail
      go_loopw [4, 6] (fun o m' wi => ∃ q : Nat, L / 8 ≤ q ∧ 8 * q ≤ L + n ∧ m' = .int .i64 ((L + n - 8 * q : Nat) : Int) ∧ wi.ownsRow w.heap.size 5 1 o q (bytesV (outTo (V * 2 ^ n + c) (L + n) q)) ∧ Blk wi w1.heap.size 44 (tab codeL) ∧ Below w.heap.size w wi)
        (fun _ m' _ => (intOf m').toNat)
      case atStart => exact ⟨L / 8, Nat.le_refl _, by omega, by congr 1; omega, hO', hT', hB'⟩
      case round =>
        obtain ⟨q, hq0, hq1, rfl, hOq, hTq, hBq⟩ := hrel
        clear hO' hT' hB'
        by_cases hq : 8 ≤ L + n - 8 * q
        · have hmq : L + n - 8 * q ≤ 37 := by omega
          generalize hr : L + n - 8 * q = r at *
          have Hr := Lib.hid hr
          clear hr
          have hqn : q + 1 ≤ 140737488355328 := by have := Hr.out; omega
          go_wp2_with (at_builtin; refine append_byte _ _ rfl _ _ rfl _ _ _ _ rfl hOq _ rfl hqn hBq.size ?_; intro v1 w2 hO1 hg1)
          have hr := Hr.out
          have hxb : (x : Int) / 2 ^ (r - 8) % 256 = (((UInt8.ofNat ((V * 2 ^ n + c) / 2 ^ (L + n - 8 * (q + 1)) % 256)).toNat : Nat) : Int) := by
            have e1 : r - 8 = L + n - 8 * (q + 1) := by omega
            have e2 := div_mod_ext (V * 2 ^ n + c) (m + n) (r - 8) (by have := Hm.out; omega)
            rw [← HX.out] at e2
            rw [← e1, ← e2, UInt8.toNat_ofNat_of_lt' (Nat.mod_lt _ (by decide))]
            simp
          rw [hxb] at hO1
          have hO2 : w2.ownsRow w.heap.size 5 1 v1 (q + 1) (bytesV (outTo (V * 2 ^ n + c) (L + n) (q + 1))) := by
            rw [outTo_succ, bytesV_append]
            exact hO1
          have hT2 := (hTq.alloc (.cells #[.int .u8 ((x : Int) / 2 ^ (r - 8) % 256)] 5)).grown hg1 (Ne.symm (own_blk_ne hOq hTq (by decide)))
          have hB2 := (hBq.alloc hBq.size (.cells #[.int .u8 ((x : Int) / 2 ^ (r - 8) % 256)] 5)).grown hg1 (by have := hBq.size; simp; omega) (own_ge hOq)
          go_roundw
          case rel =>
            have e6 : Value.int .i64 ((r : Int) - 8) = Value.int .i64 ((L + n - 8 * (q + 1) : Nat) : Int) := by congr 1; omega
            exact ⟨q + 1, by omega, by omega, e6, hO2, hT2, hB2⟩
          case measure => simp [intOf]; omega
        · have eq1 : q = (L + n) / 8 := by omega
          have er : L + n - 8 * q = (L + n) % 8 := by omega
          subst eq1
          rw [er]
          clear er hq0 hq1 hq
          have hr8 : (L + n) % 8 < 8 := Nat.mod_lt _ (by decide)
          generalize hr : (L + n) % 8 = r at *
          have Hr := Lib.hid hr
          clear hr
          go_wp2_with fail
          go_roundw
          case rel =>
            rw [mask_step x r hx64 (by omega)]
            have hv2 : x % 2 ^ r = valN (s.data.toList.take (k + 1)) % 2 ^ (bitsIn (s.data.toList.take (k + 1)) % 8) := by
              rw [HV.out, HL.out, Hr.out, HX.out, mod_mod_pow]
              have := Hr.out; have := Hm.out; omega
            refine ⟨k + 1, by omega, by go_num, by rw [hv2], by rw [HL.out, Hr.out], ?_, hTq, hBq⟩
            rw [HV.out, HL.out]
            exact hOq
          case measure => simp [intOf]; omega
    · have ek : s.data.toList.take k = s.data.toList := List.take_of_length_le (by simp; omega)
      rw [ek] at hO ⊢
      have hLk : bitsIn s.data.toList ≤ 30 * s.size := by have := bitsIn_le s.data.toList; simpa using this
      have hE := HE.out
      have hEl := enc_len s.data.toList
      rw [← hE] at hEl
      unfold enc at hE
      have HE2 := Lib.hid hE
      have HEl := Lib.hid hEl
      clear hE hEl HE
      generalize valN s.data.toList = V at *
      generalize bitsIn s.data.toList = L at *
      have hm0 : L % 8 < 8 := Nat.mod_lt _ (by decide)
      by_cases hz : L % 8 = 0
      · have hEq := HE2.out
        rw [if_pos hz, List.append_nil] at hEq
        have hn : E.length = L / 8 := by rw [hEq, outTo_len]
        have hO2 : wr.ownsRow w.heap.size 5 1 u4 E.length (bytesV E) := by rw [hn, hEq]; exact hO
        clear hO hEq hn HE2 HEl hT
        rw [hz]
        go_wp2
        go_ret
        exact ⟨u4, rfl, hO2, hB⟩
      · have hm1 : 0 < L % 8 := by omega
        generalize hm : L % 8 = m at *
        have hh : V % 2 ^ m < 2 ^ m := Nat.mod_lt _ (Nat.two_pow_pos _)
        generalize hhv : V % 2 ^ m = hv at *
        have Hm := Lib.hid hm
        have Hh := Lib.hid hhv
        clear hm hhv hz
        go_wp2_with fail
        have hq47 : L / 8 + 1 ≤ 140737488355328 := by omega
        obtain ⟨j, hj⟩ : ∃ j : Nat, j = 8 - m := ⟨_, rfl⟩
        have hwj : IntKind.i64.wrap (8 - (m : Int)) = (j : Int) := by rw [IntWalk.i64_in _ (by omega)]; omega
        have Hj := Lib.hid hj
        clear hj
        have hown := hO
        have hBq := hB
        have hbs : ∀ o : Obj, w.heap.size ≤ ((wr.alloc o).drew).heap.size := fun o => by have := hBq.size; show _ ≤ (wr.heap.push o).size; simp; omega
        have hbs1 : w.heap.size ≤ wr.heap.size := hBq.size
        go_region_held3 (fun _ => True) (trivial) ((refine step_append_byte _ _ wr.heap.size (heap_alloc_new wr _) (by rfl) _ _ (by rfl) w.heap.size (L / 8) _ _ (by rfl) ((hown.alloc _).drew) 1 (by rfl) hq47 (hbs _) ?_; intro v1 w2 hO1 hg1))
        go_wp2
        go_ret
        rw [last_step hv m j (by have := Hj.out; omega) hm1 hh] at hO1
        rw [last_step hv m j (by have := Hj.out; omega) hm1 hh] at hg1
        have hlast : ((hv * 2 ^ j + (2 ^ j - 1) : Nat) : Int) = (((lastOf V m).toNat : Nat) : Int) := by
          unfold lastOf
          rw [Hh.out, ← Hj.out, UInt8.toNat_ofNat_of_lt' (last_lt hv m j (by have := Hj.out; omega) hh)]
        have hB2 := ((hBq.alloc hBq.size (.cells #[.int .u8 ((hv * 2 ^ j + (2 ^ j - 1) : Nat) : Int)] 5)).drew).grown hg1 (hbs _) (own_ge hown)
        refine ⟨v1, rfl, ?_, hB2⟩
        rw [hlast] at hO1
        have hEq := HE2.out
        rw [if_neg (by omega)] at hEq
        have hn : E.length = L / 8 + 1 := by rw [hEq, List.length_append, outTo_len]; simp
        rw [hn, hEq, bytesV_append]
        exact hO1
end Go.Proofs.YtblenefhoidhaaaDoor.Huff
