/-
  BitsPure, BitsR, BitsPack, BitsW, BitsW2, BitsUse, in one text.
-/
import Derived.Test.YtnapnaaejignaaaGreatPkA
import Derived.Test.YtnapnaaejignaaaGreatProg
import Derived.Deep.AppendLies
/-! BitsPure: Bits of a text, as plain functions on numbers; what 'and', 'or' come to on them. No program is in sight here. -/
namespace Go.Proofs.YtnapnaaejignaaaGreat.Bt
open Go.RowKit

def byteAt (s : ByteArray) (i : Nat) : Nat := (s.data.toList.getD i 0).toNat
def bitOf (hi : Bool) (x j : Nat) : Nat := if hi then x / 2 ^ (7 - j) % 2 else x / 2 ^ j % 2
def bit (s : ByteArray) (hi : Bool) (p : Nat) : Nat := bitOf hi (byteAt s (p / 8)) (p % 8)
def getv (s : ByteArray) (hi : Bool) (at_ : Nat) : Nat → Nat
  | 0 => 0
  | n + 1 => if hi then 2 * getv s hi at_ n + bit s hi (at_ + n) else getv s hi at_ n + bit s hi (at_ + n) * 2 ^ n

theorem byteAt_eq (s : ByteArray) (i : Nat) (h : i < s.size) : (s[i]'h).toNat = byteAt s i := by
  unfold byteAt
  rw [List.getD_eq_getElem?_getD, List.getElem?_eq_getElem (by simpa using h)]
  rfl
theorem byteAt_lt (s : ByteArray) (i : Nat) : byteAt s i < 256 := by
  unfold byteAt; exact UInt8.toNat_lt _
theorem bitOf_le (hi : Bool) (x j : Nat) : bitOf hi x j ≤ 1 := by
  unfold bitOf; split <;> omega
theorem bit_le (s : ByteArray) (hi : Bool) (p : Nat) : bit s hi p ≤ 1 := bitOf_le _ _ _
theorem getv_lt (s : ByteArray) (hi : Bool) (at_ : Nat) : ∀ n, getv s hi at_ n < 2 ^ n
  | 0 => by simp [getv]
  | n + 1 => by
    have ih := getv_lt s hi at_ n
    have hb := bit_le s hi (at_ + n)
    unfold getv
    have h2 : 2 ^ (n + 1) = 2 * 2 ^ n := by rw [Nat.pow_succ]; omega
    split
    · omega
    · have : bit s hi (at_ + n) * 2 ^ n ≤ 1 * 2 ^ n := Nat.mul_le_mul_right _ hb
      omega

theorem and_one (x : Nat) (h : x < 2 ^ 64) : bits BinOp.and IntKind.u64 (x : Int) 1 = ((x % 2 : Nat) : Int) := by
  have h1 := bits_and_u64_nat x 1 (by omega) (by omega)
  rw [Nat.and_one_is_mod] at h1
  exact h1
theorem or_dbl (v b : Nat) (hv : 2 * v < 2 ^ 64) (hb : b ≤ 1) : bits BinOp.or IntKind.u64 ((2 * v : Nat) : Int) (b : Int) = ((2 * v + b : Nat) : Int) := by
  have h1 := bits_or_u64_nat (2 * v) b (by omega) (by omega)
  have h2 : 2 * v ||| b = 2 * v + b := by
    have := Nat.two_pow_add_eq_or_of_lt (i := 1) (b := b) (by omega) v
    simpa using this.symm
  rw [h2] at h1; exact h1
theorem or_shl (v b n : Nat) (hn : n < 32) (hv : v < 2 ^ n) (hb : b ≤ 1) : bits BinOp.or IntKind.u64 (v : Int) ((b * 2 ^ n : Nat) : Int) = ((v + b * 2 ^ n : Nat) : Int) := by
  have hp : 2 ^ n ≤ 2 ^ 31 := Nat.pow_le_pow_right (by omega) (by omega)
  have hbp : b * 2 ^ n ≤ 2 ^ 31 := by have := Nat.mul_le_mul hb hp; omega
  have h1 := bits_or_u64_nat v (b * 2 ^ n) (by omega) (by omega)
  have h2 : v ||| b * 2 ^ n = v + b * 2 ^ n := by
    have := Nat.two_pow_add_eq_or_of_lt hv b
    rw [Nat.or_comm, Nat.mul_comm b, ← this]; omega
  rw [h2] at h1; exact h1
/-- how many bits are ahead of the next byte -/
def gap (n : Nat) : Nat := (8 - n % 8) % 8
theorem gap_lt (n : Nat) : gap n < 8 := by unfold gap; omega
theorem neg_and (n : Nat) : bits BinOp.and IntKind.i64 (-(n : Int)) 7 = ((gap n : Nat) : Int) := by
  have h7 : (BitVec.ofInt 64 7).toNat = 7 := by decide
  have hx : (BitVec.ofInt 64 (-(n : Int))).toNat % 8 = gap n := by
    rw [BitVec.toNat_ofInt]
    unfold gap
    omega
  have h8 : (BitVec.ofInt 64 (-(n : Int)) &&& BitVec.ofInt 64 7).toNat = gap n := by
    rw [BitVec.toNat_and, h7, ← hx]
    exact Nat.and_two_pow_sub_one_eq_mod _ 3
  have hg := gap_lt n
  show IntKind.i64.wrap ((BitVec.ofInt 64 (-(n : Int)) &&& BitVec.ofInt 64 7).toNat : Int) = _
  rw [h8, IntKind.wrap_i64]
  omega

theorem bit_hi (s : ByteArray) (p : Nat) (h : p / 8 < s.size) : bits BinOp.and IntKind.u64 (((s[p / 8]'h).toNat : Int) / 2 ^ (7 - p % 8)) 1 = ((bit s true p : Nat) : Int) := by
  have h1 := and_one ((s[p / 8]'h).toNat / 2 ^ (7 - p % 8)) (Nat.lt_of_le_of_lt (Nat.div_le_self _ _) (by have := (s[p / 8]'h).toNat_lt; omega))
  have h2 : ((((s[p / 8]'h).toNat / 2 ^ (7 - p % 8) : Nat)) : Int) = ((s[p / 8]'h).toNat : Int) / 2 ^ (7 - p % 8) := by push_cast; rfl
  rw [h2] at h1
  rw [h1, byteAt_eq]
  simp [bit, bitOf]
theorem bit_lo (s : ByteArray) (p : Nat) (h : p / 8 < s.size) : bits BinOp.and IntKind.u64 (((s[p / 8]'h).toNat : Int) / 2 ^ (p % 8)) 1 = ((bit s false p : Nat) : Int) := by
  have h1 := and_one ((s[p / 8]'h).toNat / 2 ^ (p % 8)) (Nat.lt_of_le_of_lt (Nat.div_le_self _ _) (by have := (s[p / 8]'h).toNat_lt; omega))
  have h2 : ((((s[p / 8]'h).toNat / 2 ^ (p % 8) : Nat)) : Int) = ((s[p / 8]'h).toNat : Int) / 2 ^ (p % 8) := by push_cast; rfl
  rw [h2] at h1
  rw [h1, byteAt_eq]
  simp [bit, bitOf]
end Go.Proofs.YtnapnaaejignaaaGreat.Bt

/-! BitsR: What the bit reader's functions do, function by function (bits.NewReader, Get, Align, Left, At). -/
namespace Go.Proofs.YtnapnaaejignaaaGreat.Bt
open Go.RowKit

def endv (hi : Bool) : Value := .iface (if hi then 122 else 123) (.agg #[])
def rdr (s : ByteArray) (at_ : Nat) (hi : Bool) : Obj := .cells #[.string s, .int .i64 at_, endv hi] 87

@[go_sem] theorem meth_shift_hi (F : Nat) (w : World) : (method (F + 1) 122 (.agg #[]) "pagemender/bits.shift").run Tryz.prog w = .ok (128, .agg #[]) w := by kernel_rfl
@[go_sem] theorem meth_shift_lo (F : Nat) (w : World) : (method (F + 1) 123 (.agg #[]) "pagemender/bits.shift").run Tryz.prog w = .ok (131, .agg #[]) w := by kernel_rfl
@[go_sem] theorem meth_join_hi (F : Nat) (w : World) : (method (F + 1) 122 (.agg #[]) "pagemender/bits.join").run Tryz.prog w = .ok (127, .agg #[]) w := by kernel_rfl
@[go_sem] theorem meth_join_lo (F : Nat) (w : World) : (method (F + 1) 123 (.agg #[]) "pagemender/bits.join").run Tryz.prog w = .ok (130, .agg #[]) w := by kernel_rfl

theorem shift_hi (n : Int) (w : World) (h0 : 0 ≤ n) (h1 : n < 8) :
    Calls Tryz.prog 128 #[.agg #[], .int .i64 n] w fun e w' => e = .returned (.int .i64 (7 - n)) ∧ Ext [] w w' := by
  go_enter Tryz.func128, Tryz.ntmps128
  go_wp2
  go_ret
  exact ⟨rfl, by repeat (first | exact Ext.refl _ _ | apply Ext.alloc)⟩
theorem shift_lo (n : Int) (w : World) :
    Calls Tryz.prog 131 #[.agg #[], .int .i64 n] w fun e w' => e = .returned (.int .i64 n) ∧ Ext [] w w' := by
  go_enter Tryz.func131, Tryz.ntmps131
  go_wp2
  go_ret
  exact ⟨rfl, by repeat (first | exact Ext.refl _ _ | apply Ext.alloc)⟩
theorem ret_u64 {a b : Int} (h : a = b) : Ending.returned (.int .u64 a) = .returned (.int .u64 b) := by rw [h]
theorem join_hi (v b : Nat) (n : Int) (w : World) (hv : v < 2 ^ 62) (hb : b ≤ 1) :
    Calls Tryz.prog 127 #[.agg #[], .int .u64 v, .int .i64 n, .int .u64 b] w fun e w' => e = .returned (.int .u64 ((2 * v + b : Nat) : Int)) ∧ Ext [] w w' := by
  go_enter Tryz.func127, Tryz.ntmps127
  go_wp2
  go_ret
  refine ⟨?_, by repeat (first | exact Ext.refl _ _ | apply Ext.alloc)⟩
  refine ret_u64 ?_
  have h := or_dbl v b (by omega) hb
  rw [show ((v : Int) * 2) = ((2 * v : Nat) : Int) from by omega]
  exact h
theorem join_lo (v b n : Nat) (w : World) (hn : n < 32) (hv : v < 2 ^ n) (hb : b ≤ 1) :
    Calls Tryz.prog 130 #[.agg #[], .int .u64 v, .int .i64 n, .int .u64 b] w fun e w' => e = .returned (.int .u64 ((v + b * 2 ^ n : Nat) : Int)) ∧ Ext [] w w' := by
  go_enter Tryz.func130, Tryz.ntmps130
  go_wp2
  go_ret
  refine ⟨?_, by repeat (first | exact Ext.refl _ _ | apply Ext.alloc)⟩
  refine ret_u64 ?_
  have h := or_shl v b n hn hv hb
  have hp : 2 ^ n ≤ 2 ^ 31 := Nat.pow_le_pow_right (by omega) (by omega)
  have hbp : b * 2 ^ n ≤ 2 ^ 31 := by have := Nat.mul_le_mul hb hp; omega
  have e : ((b : Int) * 2 ^ n) = ((b * 2 ^ n : Nat) : Int) := by push_cast; rfl
  rw [show IntKind.u64.wrap ((b : Int) * 2 ^ n) = ((b * 2 ^ n : Nat) : Int) from by rw [e, IntWalk.u64_in _ (by omega)]]
  exact h

theorem left_nil (w : World) : Calls Tryz.prog 89 #[.pointer none] w fun e w' => e = .returned (.int .i64 0) ∧ w = w' := by
  go_enter Tryz.func89, Tryz.ntmps89
  go_wp2
  go_ret
  exact ⟨rfl, rfl⟩
theorem at_nil (w : World) : Calls Tryz.prog 27 #[.pointer none] w fun e w' => e = .returned (.int .i64 0) ∧ w = w' := by
  go_enter Tryz.func27, Tryz.ntmps27
  go_wp2
  go_ret
  exact ⟨rfl, rfl⟩
theorem align_nil (w : World) : Calls Tryz.prog 90 #[.pointer none] w fun e w' => e = .returned (.int .i64 0) ∧ w = w' := by
  go_enter Tryz.func90, Tryz.ntmps90
  go_wp2
  go_ret
  exact ⟨rfl, rfl⟩
theorem get_nil (n : Int) (w : World) : Calls Tryz.prog 66 #[.pointer none, .int .i64 n] w fun e w' => e = .returned (.tuple #[.int .u32 0, .int .i64 1]) ∧ w = w' := by
  go_enter Tryz.func66, Tryz.ntmps66
  go_wp2
  go_ret2
  exact ⟨rfl, rfl⟩

theorem left_any (b : Nat) (s : ByteArray) (at_ : Nat) (hi : Bool) (w : World) (hs : s.size ≤ 140737488355328) (ha : at_ ≤ 8 * s.size)
    (hb : w.heap[b]? = some (rdr s at_ hi)) :
    Calls Tryz.prog 89 #[.pointer (some ⟨b, 0, none⟩)] w fun e w' => e = .returned (.int .i64 (8 * s.size - at_)) ∧ Ext [] w w' := by
  have h0 := cellOf hb 0
  have h1 := cellOf hb 1
  go_enter Tryz.func89, Tryz.ntmps89
  go_wp2
  go_quiet (fail)
  go_wp2
  go_ret
  exact ⟨rfl, (Ext.refl _ _).drewN _⟩
theorem at_any (b : Nat) (s : ByteArray) (at_ : Nat) (hi : Bool) (w : World) (hb : w.heap[b]? = some (rdr s at_ hi)) :
    Calls Tryz.prog 27 #[.pointer (some ⟨b, 0, none⟩)] w fun e w' => e = .returned (.int .i64 at_) ∧ Ext [] w w' := by
  have h1 := cellOf hb 1
  go_enter Tryz.func27, Tryz.ntmps27
  go_wp2
  go_ret
  exact ⟨rfl, Ext.refl _ _⟩

theorem align_any (b : Nat) (s : ByteArray) (at_ : Nat) (hi : Bool) (w : World) (hs : s.size ≤ 140737488355328) (ha : at_ ≤ 8 * s.size)
    (hb : w.heap[b]? = some (rdr s at_ hi)) :
    Calls Tryz.prog 90 #[.pointer (some ⟨b, 0, none⟩)] w fun e w' => e = .returned (.int .i64 (gap at_)) ∧ w'.heap[b]? = some (rdr s (at_ + gap at_) hi) ∧ Ext [b] w w' := by
  have h1 := cellOf hb 1
  have f1 := freeOf hb 1
  have hn := neg_and at_
  have hg := gap_lt at_
  go_enter Tryz.func90, Tryz.ntmps90
  go_wp2
  go_ret
  exact ⟨rfl, heap_setCell_same hb _, (Ext.refl _ _).setCell _ _ (by simp)⟩


set_option maxRecDepth 100000 in
set_option maxHeartbeats 2000000 in
theorem get_ok_hi (b : Nat) (s : ByteArray) (at_ n : Nat) (w : World) (hs : s.size ≤ 140737488355328) (hn : n ≤ 32) (ha : at_ + n ≤ 8 * s.size)
    (hb : w.heap[b]? = some (rdr s at_ true)) :
    Calls Tryz.prog 66 #[.pointer (some ⟨b, 0, none⟩), .int .i64 n] w fun e w' =>
      e = .returned (.tuple #[.int .u32 (getv s true at_ n), .int .i64 0]) ∧ w'.heap[b]? = some (rdr s (at_ + n) true) ∧ Ext [b] w w' := by
  go_enter Tryz.func66, Tryz.ntmps66
  go_wp2_with (first | (go_at_call 89; refine (left_any _ s at_ true _ hs (by omega) hb).mono ?_; rintro e w1 ⟨rfl, hx⟩))
  have hb1 := hx.keep hb (by simp)
  have hx1 : Ext [b] w w1 := hx.weak
  clear hx hb
  go_loopg [6, 25] n (fun g v i wr => ∃ k : Nat, g + k = n ∧ i = .int .i64 k ∧ v = .int .u64 (getv s true at_ k) ∧ wr.heap[b]? = some (rdr s (at_ + k) true) ∧ Ext [b] w wr)
  case atStart => exact ⟨0, by omega, rfl, rfl, hb1, hx1⟩
  case round =>
    obtain ⟨k, hk, rfl, rfl, hbr, hx⟩ := hrel
    clear hb1 hx1
    by_cases hkn : k < n
    · go_wp2_with fail
      refine wp_region_ext (by kernel_rfl) (by kernel_rfl) ?_
      have c0 : ∀ x : Ex wr, x.w.cell? ⟨b, 0, none⟩ = some (.string s) := fun x => cellOf (x.heap hbr) 0
      have c1 : ∀ x : Ex wr, x.w.cell? ⟨b, 1, none⟩ = some (.int .i64 ((at_ + k : Nat) : Int)) := fun x => cellOf (x.heap hbr) 1
      have c2 : ∀ x : Ex wr, x.w.cell? ⟨b, 2, none⟩ = some (.iface 122 (.agg #[])) := fun x => cellOf (x.heap hbr) 2
      have i0 : (0:Int) ≤ ((at_:Int) + (k:Int)) / 8 := by omega
      have i1 : ((at_:Int) + (k:Int)) / 8 < (s.size : Int) := by omega
      have b1 : ((s[(at_ + k) / 8]'(by omega)).toNat : Int) ≤ 255 := by have := (s[(at_ + k) / 8]'(by omega)).toNat_lt; omega
      repeat (go_big_quiet_step ((go_at_call 128; refine Calls.ext_of (shift_hi _ _ (by omega) (by omega)))))
      refine wpQuiet_nil ?_
      rintro _ ⟨x, rfl⟩
      have hx' : Ext [b] w x.w := hx.trans x.ext.weak
      have hbx := x.heap hbr
      clear c0 c1 c2 hx hbr
      have eb := bit_hi s (at_ + k) (by omega)
      have hbit := bit_le s true (at_ + k)
      have hgv := getv_lt s true at_ k
      have hp : 2 ^ k ≤ 2 ^ 31 := Nat.pow_le_pow_right (by omega) (by omega)
      simp only [eb]
      clear eb
      have d2 : x.w.cell? ⟨b, 2, none⟩ = some (.iface 122 (.agg #[])) := cellOf hbx 2
      go_wp2_with (first | (go_at_call 127; refine (join_hi _ _ _ _ (by omega) hbit).mono ?_; rintro e w2 ⟨rfl, hx2⟩; have hb2 := hx2.keep hbx (by simp); have hx2' : Ext [b] w w2 := hx'.trans hx2.weak; have e1 : w2.cell? ⟨b, 1, none⟩ = some (.int .i64 ((at_ + k : Nat) : Int)) := cellOf hb2 1; have g1 := freeOf hb2 1; clear hx' hbx d2 hx2))
      go_roundg (n - (k + 1))
      case measure => omega
      case rel => exact ⟨k + 1, by omega, by go_num, rfl, heap_setCell_same hb2 _, hx2'.setCell _ _ (by simp)⟩
    · have hkn' : k = n := by omega
      have hgv := getv_lt s true at_ k
      have hp : 2 ^ k ≤ 2 ^ 32 := Nat.pow_le_pow_right (by omega) (by omega)
      subst hkn'
      go_wp2_with fail
      go_ret2
      exact ⟨rfl, hbr, hx⟩

set_option maxRecDepth 100000 in
set_option maxHeartbeats 2000000 in
theorem get_ok_lo (b : Nat) (s : ByteArray) (at_ n : Nat) (w : World) (hs : s.size ≤ 140737488355328) (hn : n ≤ 32) (ha : at_ + n ≤ 8 * s.size)
    (hb : w.heap[b]? = some (rdr s at_ false)) :
    Calls Tryz.prog 66 #[.pointer (some ⟨b, 0, none⟩), .int .i64 n] w fun e w' =>
      e = .returned (.tuple #[.int .u32 (getv s false at_ n), .int .i64 0]) ∧ w'.heap[b]? = some (rdr s (at_ + n) false) ∧ Ext [b] w w' := by
  go_enter Tryz.func66, Tryz.ntmps66
  go_wp2_with (first | (go_at_call 89; refine (left_any _ s at_ false _ hs (by omega) hb).mono ?_; rintro e w1 ⟨rfl, hx⟩))
  have hb1 := hx.keep hb (by simp)
  have hx1 : Ext [b] w w1 := hx.weak
  clear hx hb
  go_loopg [6, 25] n (fun g v i wr => ∃ k : Nat, g + k = n ∧ i = .int .i64 k ∧ v = .int .u64 (getv s false at_ k) ∧ wr.heap[b]? = some (rdr s (at_ + k) false) ∧ Ext [b] w wr)
  case atStart => exact ⟨0, by omega, rfl, rfl, hb1, hx1⟩
  case round =>
    obtain ⟨k, hk, rfl, rfl, hbr, hx⟩ := hrel
    clear hb1 hx1
    by_cases hkn : k < n
    · go_wp2_with fail
      refine wp_region_ext (by kernel_rfl) (by kernel_rfl) ?_
      have c0 : ∀ x : Ex wr, x.w.cell? ⟨b, 0, none⟩ = some (.string s) := fun x => cellOf (x.heap hbr) 0
      have c1 : ∀ x : Ex wr, x.w.cell? ⟨b, 1, none⟩ = some (.int .i64 ((at_ + k : Nat) : Int)) := fun x => cellOf (x.heap hbr) 1
      have c2 : ∀ x : Ex wr, x.w.cell? ⟨b, 2, none⟩ = some (.iface 123 (.agg #[])) := fun x => cellOf (x.heap hbr) 2
      have i0 : (0:Int) ≤ ((at_:Int) + (k:Int)) / 8 := by omega
      have i1 : ((at_:Int) + (k:Int)) / 8 < (s.size : Int) := by omega
      have b1 : ((s[(at_ + k) / 8]'(by omega)).toNat : Int) ≤ 255 := by have := (s[(at_ + k) / 8]'(by omega)).toNat_lt; omega
      repeat (go_big_quiet_step ((go_at_call 131; refine Calls.ext_of (shift_lo _ _))))
      refine wpQuiet_nil ?_
      rintro _ ⟨x, rfl⟩
      have hx' : Ext [b] w x.w := hx.trans x.ext.weak
      have hbx := x.heap hbr
      clear c0 c1 c2 hx hbr
      have eb := bit_lo s (at_ + k) (by omega)
      have hbit := bit_le s false (at_ + k)
      have hgv := getv_lt s false at_ k
      have hp : 2 ^ k ≤ 2 ^ 31 := Nat.pow_le_pow_right (by omega) (by omega)
      simp only [eb]
      clear eb
      have d2 : x.w.cell? ⟨b, 2, none⟩ = some (.iface 123 (.agg #[])) := cellOf hbx 2
      go_wp2_with (first | (go_at_call 130; refine (join_lo _ _ _ _ (by omega) hgv hbit).mono ?_; rintro e w2 ⟨rfl, hx2⟩; have hb2 := hx2.keep hbx (by simp); have hx2' : Ext [b] w w2 := hx'.trans hx2.weak; have e1 : w2.cell? ⟨b, 1, none⟩ = some (.int .i64 ((at_ + k : Nat) : Int)) := cellOf hb2 1; have g1 := freeOf hb2 1; clear hx' hbx d2 hx2))
      go_roundg (n - (k + 1))
      case measure => omega
      case rel => exact ⟨k + 1, by omega, by go_num, rfl, heap_setCell_same hb2 _, hx2'.setCell _ _ (by simp)⟩
    · have hkn' : k = n := by omega
      have hgv := getv_lt s false at_ k
      have hp : 2 ^ k ≤ 2 ^ 32 := Nat.pow_le_pow_right (by omega) (by omega)
      subst hkn'
      go_wp2_with fail
      go_ret2
      exact ⟨rfl, hbr, hx⟩

theorem get_arg (b : Nat) (n : Int) (w : World) (hn : n < 0 ∨ 32 < n) :
    Calls Tryz.prog 66 #[.pointer (some ⟨b, 0, none⟩), .int .i64 n] w fun e w' => e = .returned (.tuple #[.int .u32 0, .int .i64 2]) ∧ w = w' := by
  rcases hn with hn | hn
  · go_enter Tryz.func66, Tryz.ntmps66
    go_wp2_with fail
    go_ret2
    exact ⟨rfl, rfl⟩
  · have hn' : ¬ n < 0 := by omega
    go_enter Tryz.func66, Tryz.ntmps66
    go_wp2_with fail
    go_ret2
    exact ⟨rfl, rfl⟩
theorem get_more (b : Nat) (s : ByteArray) (at_ n : Nat) (hi : Bool) (w : World) (hs : s.size ≤ 140737488355328) (hn : n ≤ 32) (ha : at_ ≤ 8 * s.size) (hm : 8 * s.size < at_ + n)
    (hb : w.heap[b]? = some (rdr s at_ hi)) :
    Calls Tryz.prog 66 #[.pointer (some ⟨b, 0, none⟩), .int .i64 n] w fun e w' => e = .returned (.tuple #[.int .u32 0, .int .i64 8]) ∧ Ext [] w w' := by
  go_enter Tryz.func66, Tryz.ntmps66
  go_wp2_with (first | (go_at_call 89; refine (left_any _ s at_ hi _ hs (by omega) hb).mono ?_; rintro e w1 ⟨rfl, hx⟩))
  go_ret2
  exact ⟨rfl, hx⟩
theorem from_any (hi : Bool) (w : World) : Calls Tryz.prog 42 #[.bool hi] w fun e w' => e = .returned (endv hi) ∧ w = w' := by
  cases hi
  · go_enter Tryz.func42, Tryz.ntmps42
    go_wp2_with fail
    go_ret
    exact ⟨rfl, rfl⟩
  · go_enter Tryz.func42, Tryz.ntmps42
    go_wp2_with fail
    go_ret
    exact ⟨rfl, rfl⟩
theorem rnew_any (s : ByteArray) (hi : Bool) (w : World) : Calls Tryz.prog 24 #[.string s, .bool hi] w fun e w' =>
    e = .returned (.pointer (some ⟨w.heap.size, 0, none⟩)) ∧ w' = w.alloc (rdr s 0 hi) := by
  go_enter Tryz.func24, Tryz.ntmps24
  go_wp2_with (first | (go_at_call 42; refine (from_any _ _).mono ?_; rintro e w1 ⟨rfl, rfl⟩; simp only [endv]))
  all_goals
    go_ret
    exact ⟨rfl, rfl⟩
end Go.Proofs.YtnapnaaejignaaaGreat.Bt

/-! BitsPack: Bits packed into bytes, and read again: plain facts on lists of numbers. No program is in sight here. -/
namespace Go.Proofs.YtnapnaaejignaaaGreat.Bt
open Go.RowKit

def wt (hi : Bool) (k : Nat) : Nat := if hi then 2 ^ (7 - k) else 2 ^ k
def byteOf (hi : Bool) (l : List Nat) (j : Nat) : Nat :=
  l.getD (8 * j) 0 * wt hi 0 + l.getD (8 * j + 1) 0 * wt hi 1 + l.getD (8 * j + 2) 0 * wt hi 2 + l.getD (8 * j + 3) 0 * wt hi 3 +
  l.getD (8 * j + 4) 0 * wt hi 4 + l.getD (8 * j + 5) 0 * wt hi 5 + l.getD (8 * j + 6) 0 * wt hi 6 + l.getD (8 * j + 7) 0 * wt hi 7
def packB (hi : Bool) (l : List Nat) : List Nat := (List.range ((l.length + 7) / 8)).map (byteOf hi l)
def Bin (l : List Nat) : Prop := ∀ x ∈ l, x ≤ 1

theorem Bin.getD {l : List Nat} (h : Bin l) (i : Nat) : l.getD i 0 ≤ 1 := by
  rw [List.getD_eq_getElem?_getD]
  cases hi : l[i]? with
  | none => simp
  | some x => exact h x (List.mem_of_getElem? hi)
theorem Bin.append {l r : List Nat} (h : Bin l) (h' : Bin r) : Bin (l ++ r) := fun x hx => by
  rcases List.mem_append.1 hx with hx | hx
  · exact h x hx
  · exact h' x hx
theorem Bin.zeros (n : Nat) : Bin (List.replicate n 0) := fun x hx => by rw [List.eq_of_mem_replicate hx]; omega
theorem Bin.one {b : Nat} (h : b ≤ 1) : Bin [b] := fun x hx => by rw [List.mem_singleton.1 hx]; exact h

theorem packB_length (hi : Bool) (l : List Nat) : (packB hi l).length = (l.length + 7) / 8 := by simp [packB]
theorem packB_get (hi : Bool) (l : List Nat) (j : Nat) (h : j < (l.length + 7) / 8) : (packB hi l)[j]? = some (byteOf hi l j) := by
  simp [packB, h]
theorem byteOf_lt (hi : Bool) (l : List Nat) (h : Bin l) (j : Nat) : byteOf hi l j < 256 := by
  have h0 := h.getD (8 * j); have h1 := h.getD (8 * j + 1); have h2 := h.getD (8 * j + 2); have h3 := h.getD (8 * j + 3)
  have h4 := h.getD (8 * j + 4); have h5 := h.getD (8 * j + 5); have h6 := h.getD (8 * j + 6); have h7 := h.getD (8 * j + 7)
  unfold byteOf wt
  cases hi <;> simp only [Bool.false_eq_true, if_false, if_true] <;> omega
theorem getD_ge (l : List Nat) (i : Nat) (h : l.length ≤ i) : l.getD i 0 = 0 := by
  rw [List.getD_eq_getElem?_getD, List.getElem?_eq_none h]; rfl
theorem getD_snoc_lt (l : List Nat) (b i : Nat) (h : i < l.length) : (l ++ [b]).getD i 0 = l.getD i 0 := by
  simp [List.getD_eq_getElem?_getD, List.getElem?_append_left h]
theorem getD_snoc_eq (l : List Nat) (b : Nat) : (l ++ [b]).getD l.length 0 = b := by
  simp [List.getD_eq_getElem?_getD]
theorem getD_snoc_gt (l : List Nat) (b i : Nat) (h : l.length < i) : (l ++ [b]).getD i 0 = l.getD i 0 := by
  rw [getD_ge _ _ (by simp; omega), getD_ge _ _ (by omega)]
theorem getD_snoc (l : List Nat) (b i : Nat) : (l ++ [b]).getD i 0 = if i = l.length then b else l.getD i 0 := by
  split
  · subst i; exact getD_snoc_eq _ _
  · rcases Nat.lt_or_ge i l.length with h | h
    · exact getD_snoc_lt _ _ _ h
    · exact getD_snoc_gt _ _ _ (by omega)

/-- a byte ahead of the last one is as it was -/
theorem byteOf_snoc_old (hi : Bool) (l : List Nat) (b j : Nat) (h : j < l.length / 8) : byteOf hi (l ++ [b]) j = byteOf hi l j := by
  unfold byteOf
  rw [getD_snoc_lt _ _ _ (by omega), getD_snoc_lt _ _ _ (by omega), getD_snoc_lt _ _ _ (by omega), getD_snoc_lt _ _ _ (by omega),
    getD_snoc_lt _ _ _ (by omega), getD_snoc_lt _ _ _ (by omega), getD_snoc_lt _ _ _ (by omega), getD_snoc_lt _ _ _ (by omega)]

theorem or_hi (r q b : Nat) (hr : r < 8) (hb : b ≤ 1) : 2 ^ (8 - r) * q ||| b * 2 ^ (7 - r) = 2 ^ (8 - r) * q + b * 2 ^ (7 - r) := by
  have h : b * 2 ^ (7 - r) < 2 ^ (8 - r) := by
    have e : 2 ^ (8 - r) = 2 * 2 ^ (7 - r) := by rw [show 8 - r = (7 - r) + 1 by omega, Nat.pow_succ]; omega
    have : b * 2 ^ (7 - r) ≤ 1 * 2 ^ (7 - r) := Nat.mul_le_mul_right _ hb
    have h0 : 0 < 2 ^ (7 - r) := Nat.two_pow_pos _
    omega
  exact (Nat.two_pow_add_eq_or_of_lt h q).symm
theorem or_lo (r x b : Nat) (hx : x < 2 ^ r) : x ||| b * 2 ^ r = x + b * 2 ^ r := by
  rw [Nat.or_comm, Nat.mul_comm b, ← Nat.two_pow_add_eq_or_of_lt hx b]; omega

/-- the byte that is being written -/
theorem byteOf_snoc_new (hi : Bool) (l : List Nat) (b : Nat) (h : Bin l) (hb : b ≤ 1) :
    byteOf hi (l ++ [b]) (l.length / 8) = byteOf hi l (l.length / 8) ||| b * wt hi (l.length % 8) := by
  generalize hj : l.length / 8 = j
  have hlen : l.length = 8 * j + l.length % 8 := by omega
  generalize hr : l.length % 8 = r at hlen
  have hr8 : r < 8 := by omega
  clear hr hj
  have hs : ∀ k, (l ++ [b]).getD (8 * j + k) 0 = if k = r then b else l.getD (8 * j + k) 0 := fun k => by
    rw [getD_snoc, hlen]
    by_cases hk : k = r
    · subst hk; rw [if_pos rfl, if_pos rfl]
    · rw [if_neg (by omega), if_neg hk]
  have hz : ∀ k, r ≤ k → l.getD (8 * j + k) 0 = 0 := fun k hk => getD_ge _ _ (by omega)
  have hs0 := hs 0; have hs1 := hs 1; have hs2 := hs 2; have hs3 := hs 3; have hs4 := hs 4; have hs5 := hs 5; have hs6 := hs 6; have hs7 := hs 7
  have h0 := h.getD (8 * j); have h1 := h.getD (8 * j + 1); have h2 := h.getD (8 * j + 2); have h3 := h.getD (8 * j + 3)
  have h4 := h.getD (8 * j + 4); have h5 := h.getD (8 * j + 5); have h6 := h.getD (8 * j + 6); have h7 := h.getD (8 * j + 7)
  have z0 := hz 0; have z1 := hz 1; have z2 := hz 2; have z3 := hz 3; have z4 := hz 4; have z5 := hz 5; have z6 := hz 6; have z7 := hz 7
  simp only [Nat.add_zero] at hs0 z0
  clear hs hz hlen h
  unfold byteOf
  rw [hs0, hs1, hs2, hs3, hs4, hs5, hs6, hs7]
  clear hs0 hs1 hs2 hs3 hs4 hs5 hs6 hs7
  generalize l.getD (8 * j) 0 = a0 at *
  generalize l.getD (8 * j + 1) 0 = a1 at *
  generalize l.getD (8 * j + 2) 0 = a2 at *
  generalize l.getD (8 * j + 3) 0 = a3 at *
  generalize l.getD (8 * j + 4) 0 = a4 at *
  generalize l.getD (8 * j + 5) 0 = a5 at *
  generalize l.getD (8 * j + 6) 0 = a6 at *
  generalize l.getD (8 * j + 7) 0 = a7 at *
  unfold wt
  cases hi
  · simp only [Bool.false_eq_true, if_false]
    rw [or_lo]
    · have hc : r = 0 ∨ r = 1 ∨ r = 2 ∨ r = 3 ∨ r = 4 ∨ r = 5 ∨ r = 6 ∨ r = 7 := by omega
      rcases hc with rfl | rfl | rfl | rfl | rfl | rfl | rfl | rfl <;> simp at * <;> omega
    · have hc : r = 0 ∨ r = 1 ∨ r = 2 ∨ r = 3 ∨ r = 4 ∨ r = 5 ∨ r = 6 ∨ r = 7 := by omega
      rcases hc with rfl | rfl | rfl | rfl | rfl | rfl | rfl | rfl <;> simp at * <;> omega
  · simp only [if_true]
    have key : ∃ q, a0 * 2 ^ (7 - 0) + a1 * 2 ^ (7 - 1) + a2 * 2 ^ (7 - 2) + a3 * 2 ^ (7 - 3) + a4 * 2 ^ (7 - 4) + a5 * 2 ^ (7 - 5) + a6 * 2 ^ (7 - 6) + a7 * 2 ^ (7 - 7) = 2 ^ (8 - r) * q := by
      have hc : r = 0 ∨ r = 1 ∨ r = 2 ∨ r = 3 ∨ r = 4 ∨ r = 5 ∨ r = 6 ∨ r = 7 := by omega
      rcases hc with rfl | rfl | rfl | rfl | rfl | rfl | rfl | rfl <;> simp at *
      · exact ⟨0, by omega⟩
      · exact ⟨a0, by omega⟩
      · exact ⟨a0 * 2 + a1, by omega⟩
      · exact ⟨a0 * 4 + a1 * 2 + a2, by omega⟩
      · exact ⟨a0 * 8 + a1 * 4 + a2 * 2 + a3, by omega⟩
      · exact ⟨a0 * 16 + a1 * 8 + a2 * 4 + a3 * 2 + a4, by omega⟩
      · exact ⟨a0 * 32 + a1 * 16 + a2 * 8 + a3 * 4 + a4 * 2 + a5, by omega⟩
      · exact ⟨a0 * 64 + a1 * 32 + a2 * 16 + a3 * 8 + a4 * 4 + a5 * 2 + a6, by omega⟩
    obtain ⟨q, hq⟩ := key
    rw [hq, or_hi r q b hr8 hb, ← hq]
    clear hq
    have hc : r = 0 ∨ r = 1 ∨ r = 2 ∨ r = 3 ∨ r = 4 ∨ r = 5 ∨ r = 6 ∨ r = 7 := by omega
    rcases hc with rfl | rfl | rfl | rfl | rfl | rfl | rfl | rfl <;> simp at * <;> omega

/-- the bytes ahead of the bit that is put: a new nought where a byte begins -/
def baseB (hi : Bool) (l : List Nat) : List Nat := if l.length % 8 = 0 then packB hi l ++ [0] else packB hi l
theorem baseB_length (hi : Bool) (l : List Nat) : (baseB hi l).length = l.length / 8 + 1 := by
  unfold baseB; split <;> simp [packB_length] <;> omega
theorem byteOf_end (hi : Bool) (l : List Nat) (h : l.length % 8 = 0) : byteOf hi l (l.length / 8) = 0 := by
  unfold byteOf
  rw [getD_ge _ _ (by omega), getD_ge _ _ (by omega), getD_ge _ _ (by omega), getD_ge _ _ (by omega), getD_ge _ _ (by omega), getD_ge _ _ (by omega), getD_ge _ _ (by omega), getD_ge _ _ (by omega)]
  omega
theorem baseB_get (hi : Bool) (l : List Nat) (j : Nat) (h : j < l.length / 8 + 1) : (baseB hi l)[j]? = some (byteOf hi l j) := by
  unfold baseB
  split
  · rename_i h8
    rcases Nat.lt_or_ge j ((l.length + 7) / 8) with hj | hj
    · rw [List.getElem?_append_left (by rw [packB_length]; exact hj)]; exact packB_get _ _ _ hj
    · obtain rfl : j = l.length / 8 := by omega
      rw [List.getElem?_append_right (by rw [packB_length]; omega), packB_length, show l.length / 8 - (l.length + 7) / 8 = 0 by omega, byteOf_end _ _ h8]
      rfl
  · exact packB_get _ _ _ (by omega)
theorem packB_snoc (hi : Bool) (l : List Nat) (b : Nat) (h : Bin l) (hb : b ≤ 1) :
    packB hi (l ++ [b]) = (baseB hi l).set (l.length / 8) (byteOf hi l (l.length / 8) ||| b * wt hi (l.length % 8)) := by
  apply List.ext_getElem?
  intro j
  rcases Nat.lt_or_ge j (l.length / 8 + 1) with hj | hj
  · rw [packB_get _ _ _ (by simp; omega), List.getElem?_set]
    by_cases hjl : l.length / 8 = j
    · subst hjl
      rw [if_pos rfl, if_pos (by rw [baseB_length]; omega), byteOf_snoc_new _ _ _ h hb]
    · rw [if_neg hjl, baseB_get _ _ _ hj, byteOf_snoc_old _ _ _ _ (by omega)]
  · rw [List.getElem?_eq_none (by rw [packB_length]; simp; omega), List.getElem?_eq_none (by rw [List.length_set, baseB_length]; omega)]

theorem byteOf_zeros (hi : Bool) (l : List Nat) (n j : Nat) : byteOf hi (l ++ List.replicate n 0) j = byteOf hi l j := by
  have h : ∀ i, (l ++ List.replicate n 0).getD i 0 = l.getD i 0 := fun i => by
    rcases Nat.lt_or_ge i l.length with hi | hi
    · simp [List.getD_eq_getElem?_getD, List.getElem?_append_left hi]
    · rw [getD_ge l _ hi, List.getD_eq_getElem?_getD, List.getElem?_append_right hi, List.getElem?_replicate]
      split <;> rfl
  unfold byteOf
  rw [h, h, h, h, h, h, h, h]
theorem packB_gap (hi : Bool) (l : List Nat) : packB hi (l ++ List.replicate (gap l.length) 0) = packB hi l := by
  have e : (l ++ List.replicate (gap l.length) 0).length = l.length + gap l.length := by rw [List.length_append, List.length_replicate]
  have e2 : (l.length + gap l.length + 7) / 8 = (l.length + 7) / 8 := by unfold gap; omega
  unfold packB
  rw [e, e2]
  exact List.map_congr_left fun j _ => byteOf_zeros _ _ _ _

/-- a bit is read as it was put -/
theorem bitOf_byteOf (hi : Bool) (l : List Nat) (h : Bin l) (j k : Nat) (hk : k < 8) : bitOf hi (byteOf hi l j) k = l.getD (8 * j + k) 0 := by
  have h0 := h.getD (8 * j); have h1 := h.getD (8 * j + 1); have h2 := h.getD (8 * j + 2); have h3 := h.getD (8 * j + 3)
  have h4 := h.getD (8 * j + 4); have h5 := h.getD (8 * j + 5); have h6 := h.getD (8 * j + 6); have h7 := h.getD (8 * j + 7)
  have hc : k = 0 ∨ k = 1 ∨ k = 2 ∨ k = 3 ∨ k = 4 ∨ k = 5 ∨ k = 6 ∨ k = 7 := by omega
  have hg : l.getD (8 * j + k) 0 = if k = 0 then l.getD (8 * j) 0 else if k = 1 then l.getD (8 * j + 1) 0 else if k = 2 then l.getD (8 * j + 2) 0 else if k = 3 then l.getD (8 * j + 3) 0
      else if k = 4 then l.getD (8 * j + 4) 0 else if k = 5 then l.getD (8 * j + 5) 0 else if k = 6 then l.getD (8 * j + 6) 0 else l.getD (8 * j + 7) 0 := by
    rcases hc with rfl | rfl | rfl | rfl | rfl | rfl | rfl | rfl <;> rfl
  rw [hg]
  unfold byteOf wt bitOf
  clear hg
  generalize l.getD (8 * j) 0 = a0 at *
  generalize l.getD (8 * j + 1) 0 = a1 at *
  generalize l.getD (8 * j + 2) 0 = a2 at *
  generalize l.getD (8 * j + 3) 0 = a3 at *
  generalize l.getD (8 * j + 4) 0 = a4 at *
  generalize l.getD (8 * j + 5) 0 = a5 at *
  generalize l.getD (8 * j + 6) 0 = a6 at *
  generalize l.getD (8 * j + 7) 0 = a7 at *
  cases hi <;> rcases hc with rfl | rfl | rfl | rfl | rfl | rfl | rfl | rfl <;> simp <;> omega

/-- the bits of a number, as they are put -/
def bitsOf (hi : Bool) (v n : Nat) : List Nat := (List.range n).map fun i => if hi then v / 2 ^ (n - 1 - i) % 2 else v / 2 ^ i % 2
theorem bitsOf_length (hi : Bool) (v n : Nat) : (bitsOf hi v n).length = n := by simp [bitsOf]
theorem bitsOf_bin (hi : Bool) (v n : Nat) : Bin (bitsOf hi v n) := fun x hx => by
  obtain ⟨i, _, rfl⟩ := List.mem_map.1 hx
  split <;> omega

/-- the text that a list of bytes is -/
def txt (l : List Nat) : ByteArray := ⟨(l.map UInt8.ofNat).toArray⟩
theorem txt_size (l : List Nat) : (txt l).size = l.length := by simp [txt, ByteArray.size]
theorem byteAt_txt (l : List Nat) (i x : Nat) (h : l[i]? = some x) (hx : x < 256) : byteAt (txt l) i = x := by
  unfold byteAt txt
  rw [List.getD_eq_getElem?_getD]
  simp [h, Nat.mod_eq_of_lt hx]
theorem bit_txt (hi : Bool) (l : List Nat) (h : Bin l) (p : Nat) (hp : p < 8 * ((l.length + 7) / 8)) : bit (txt (packB hi l)) hi p = l.getD p 0 := by
  unfold bit
  rw [byteAt_txt _ _ _ (packB_get hi l (p / 8) (by omega)) (byteOf_lt _ _ h _), bitOf_byteOf _ _ h _ _ (by omega), show 8 * (p / 8) + p % 8 = p by omega]
end Go.Proofs.YtnapnaaejignaaaGreat.Bt

/-! BitsW: What the bit writer's functions do, function by function (bits.NewWriter, one, Put, Align, Len, Text). -/
namespace Go.Proofs.YtnapnaaejignaaaGreat.Bt
open Go.RowKit

def b8 (x : Nat) : Value := .int .u8 x
def wtr (v : Value) (n : Nat) (hi : Bool) : Obj := .cells #[v, .int .i64 n, endv hi] 112
/-- block b is a writer with the bits l; it owns the blocks F -/
def Wtr (w : World) (b : Nat) (F : List Nat) (hi : Bool) (l : List Nat) : Prop :=
  ∃ v, w.heap[b]? = some (wtr v l.length hi) ∧ w.ownsRow 0 5 1 v (packB hi l).length ((packB hi l).map b8) ∧ F = b :: v.ownBlock.toList ∧ v.ownBlock ≠ some b ∧ Bin l

theorem infoByte : (Tryz.prog.info? 5).map (fun i => (i.zero, i.size, i.bytes)) = some (some (.int .u8 0), 1, 1) := by kernel_rfl

theorem put_hi (bit r : Nat) (hb : bit ≤ 1) : IntKind.u64.wrap ((bit : Int) * 2 ^ (7 - r)) % 256 = ((bit * wt true r : Nat) : Int) := by
  have hp : 2 ^ (7 - r) ≤ 2 ^ 7 := Nat.pow_le_pow_right (by omega) (by omega)
  have h1 : bit * 2 ^ (7 - r) ≤ 128 := by have := Nat.mul_le_mul hb hp; omega
  have e : ((bit : Int) * 2 ^ (7 - r)) = ((bit * 2 ^ (7 - r) : Nat) : Int) := by push_cast; rfl
  rw [e, IntWalk.u64_in _ (by omega)]
  simp only [wt, if_true]
  omega
theorem put_lo (bit r : Nat) (hb : bit ≤ 1) (hr : r < 8) : IntKind.u64.wrap ((bit : Int) * 2 ^ r) % 256 = ((bit * wt false r : Nat) : Int) := by
  have hp : 2 ^ r ≤ 2 ^ 7 := Nat.pow_le_pow_right (by omega) (by omega)
  have h1 : bit * 2 ^ r ≤ 128 := by have := Nat.mul_le_mul hb hp; omega
  have e : ((bit : Int) * 2 ^ r) = ((bit * 2 ^ r : Nat) : Int) := by push_cast; rfl
  rw [e, IntWalk.u64_in _ (by omega)]
  simp only [wt, Bool.false_eq_true, if_false]
  omega
theorem wt_le (hi : Bool) (r bit : Nat) (hb : bit ≤ 1) (hr : r < 8) : bit * wt hi r < 256 := by
  have : wt hi r ≤ 2 ^ 7 := by unfold wt; split <;> exact Nat.pow_le_pow_right (by omega) (by omega)
  have := Nat.mul_le_mul hb this
  omega

/-- the end of 'one', on plain facts -/
theorem one_done {w wr : World} {b g n cap : Nat} {v : Value} {hi : Bool} {l : List Nat} {bit : Nat} {x : Ex wr} (hbin : Bin l) (hbit : bit ≤ 1) (hgb : g ≠ b) (hn : n = l.length / 8 + 1)
    (hbr : wr.heap[b]? = some (wtr (.slice (some ⟨g, 0, none⟩) n cap) l.length hi)) (hrow : wr.ownsRow 0 5 1 (.slice (some ⟨g, 0, none⟩) n cap) n ((baseB hi l).map b8))
    (hext : Ext (b :: v.ownBlock.toList) w wr) (hfr : v.ownBlock = some g ∨ w.heap.size ≤ g) :
    ∃ F', Wtr ((x.w.setCell ⟨g, l.length / 8, none⟩ (.int .u8 ((byteOf hi l (l.length / 8) ||| bit * wt hi (l.length % 8) : Nat) : Int))).setCell ⟨b, 1, none⟩ (.int .i64 ((l.length : Int) + 1))) b F' hi (l ++ [bit]) ∧
      Ext (b :: v.ownBlock.toList) w ((x.w.setCell ⟨g, l.length / 8, none⟩ (.int .u8 ((byteOf hi l (l.length / 8) ||| bit * wt hi (l.length % 8) : Nat) : Int))).setCell ⟨b, 1, none⟩ (.int .i64 ((l.length : Int) + 1))) ∧ Fr w (b :: v.ownBlock.toList) F' := by
  have hgS : g ∈ b :: v.ownBlock.toList ∨ w.heap.size ≤ g := hfr.elim (fun h => .inl (by simp [h])) .inr
  refine ⟨[b, g], ⟨.slice (some ⟨g, 0, none⟩) n cap, ?_, ?_, rfl, fun e => hgb (by simpa [Value.ownBlock] using e), hbin.append (Bin.one hbit)⟩, ?_, ?_⟩
  · have h1 := heap_setCell_same (i := 1) (w := x.w.setCell ⟨g, l.length / 8, none⟩ (.int .u8 ((byteOf hi l (l.length / 8) ||| bit * wt hi (l.length % 8) : Nat) : Int))) (b := b)
      ((heap_setCell_ne _ (by simpa using Ne.symm hgb)).trans (x.heap hbr)) (.int .i64 ((l.length : Int) + 1))
    rw [h1]
    simp [wtr]
  · have h1 := ownsRow_store (i := l.length / 8) (ownsRow_ext hrow x.ext (by simp)) (.int .u8 ((byteOf hi l (l.length / 8) ||| bit * wt hi (l.length % 8) : Nat) : Int))
    have h2 := ownsRow_setCell_other h1 (a := ⟨b, 1, none⟩) (fun e => hgb (by simpa [Value.ownBlock] using e)) (.int .i64 ((l.length : Int) + 1))
    rw [packB_snoc hi l bit hbin hbit, List.length_set, baseB_length, List.map_set, ← hn]
    exact h2
  · exact ((hext.trans x.ext.weak).setCell _ _ hgS).setCell _ _ (by simp)
  · intro k hk
    rcases List.mem_cons.1 hk with rfl | hk
    · exact .inl (by simp)
    · obtain rfl : k = g := by simpa using hk
      exact hgS

set_option maxRecDepth 100000 in
set_option maxHeartbeats 4000000 in
theorem one_hi (b : Nat) (F : List Nat) (l : List Nat) (bit : Nat) (w : World) (hl : l.length < 2 ^ 40) (hbit : bit ≤ 1) (hW : Wtr w b F true l) :
    Calls Tryz.prog 62 #[.pointer (some ⟨b, 0, none⟩), .int .u64 bit] w fun e w' => e = .returned (.tuple #[]) ∧ ∃ F', Wtr w' b F' true (l ++ [bit]) ∧ Ext F w w' ∧ Fr w F F' := by
  obtain ⟨v, hb, hown, rfl, hne, hbin⟩ := hW
  have hpl := packB_length true l
  have c1 : w.cell? ⟨b, 1, none⟩ = some (.int .i64 ((l.length : Nat) : Int)) := cellOf hb 1
  have bb : (bit : Int) ≤ 1 := by omega
  by_cases h8 : l.length % 8 = 0
  · obtain ⟨i0, hi, hz0, hz1, hz2⟩ := info_parts infoByte
    have hm : (((l.length : Nat) : Int) % 8 == 0) = true := by simp; omega
    have c0 : w.cell? ⟨b, 0, none⟩ = some v := cellOf hb 0
    have f0 := freeOf hb 0
    have hsz := lt_of_block hb
    generalize hnn : (packB true l).length = n0 at hown hpl
    have Hnn := Lib.hid hnn
    have H8 := Lib.hid h8
    have Hpl := Lib.hid hpl
    have hn0 : n0 ≤ 2 ^ 40 := by omega
    clear hnn h8 hpl
    go_enter Tryz.func62, Tryz.ntmps62
    go_wp2_with (first | (at_builtin; refine wpList_append_lies _ rfl _ _ 28 rfl 0 5 i0 _ 1 1 Tryz.underlying28 hi hz0 hz1 hz2 rfl (by decide) v n0 _ rfl (hown.alloc _) ⟨w.heap.size, 0, none⟩ 1 1 [.int .u8 0] rfl rfl (cell_one_new _ _ _) (by simp [Value.oneCell']) (by decide) (by unfold maxLen; omega) (by omega) (by omega) (w.heap.size + 1) (by simp) ?_; intro g cap w1 hown1 hgrow hat hlt; have b1 : w1.heap[b]? = some (wtr v l.length true) := grown_keep hgrow (heap_alloc_old _ hb) hne; have k0 := cellOf b1 0; have k1 := freeOf b1 0; clear c0 f0 c1))
    have hgb : g ≠ b := fun e => by
      rcases hat with h | h
      · exact hne (by rw [h, e])
      · omega
    have hfr : v.ownBlock = some g ∨ w.heap.size ≤ g := hat.elim .inl (fun h => .inr (by omega))
    have hn : n0 + 1 = l.length / 8 + 1 := by have := Hpl.out; have := H8.out; omega
    have hbr : (w1.setCell ⟨b, 0, none⟩ (.slice (some ⟨g, 0, none⟩) (n0 + 1) cap)).heap[b]? = some (wtr (.slice (some ⟨g, 0, none⟩) (n0 + 1) cap) l.length true) := by
      rw [heap_setCell_same b1]; simp [wtr]
    have hrow : (w1.setCell ⟨b, 0, none⟩ (.slice (some ⟨g, 0, none⟩) (n0 + 1) cap)).ownsRow 0 5 1 (.slice (some ⟨g, 0, none⟩) (n0 + 1) cap) (n0 + 1) ((baseB true l).map b8) := by
      have h1 := ownsRow_setCell_other hown1 (a := ⟨b, 0, none⟩) (fun e => hgb (by simpa [Value.ownBlock] using e)) (.slice (some ⟨g, 0, none⟩) (n0 + 1) cap)
      rw [show baseB true l = packB true l ++ [0] by unfold baseB; rw [if_pos H8.out], List.map_append]
      exact h1
    have hext : Ext (b :: v.ownBlock.toList) w (w1.setCell ⟨b, 0, none⟩ (.slice (some ⟨g, 0, none⟩) (n0 + 1) cap)) :=
      (((Ext.refl _ w).alloc _).grown hgrow (fun k hk => .inl (by simp [hk]))).setCell _ _ (by simp)
    generalize w1.setCell ⟨b, 0, none⟩ (.slice (some ⟨g, 0, none⟩) (n0 + 1) cap) = wr at *
    generalize n0 + 1 = n at *
    clear hown1 hgrow hat hlt b1 k0 k1 hown hm hb hsz hi hz0 hz1 hz2
    have Hn := Lib.hid hn
    have Hext := Lib.hid hext
    have Hfr := Lib.hid hfr
    have Hrow := Lib.hid hrow
    have hcur : wr.cell? ⟨g, l.length / 8, none⟩ = some (.int .u8 ((byteOf true l (l.length / 8) : Nat) : Int)) := ownsRow_at hrow (by rw [List.getElem?_map, baseB_get _ _ _ (by omega)]; rfl)
    have hgr := ownsRow_free hrow
    have i0 : (0:Int) ≤ (l.length : Int) / 8 := by omega
    have i1 : (l.length : Int) / 8 < (n : Int) := by omega
    clear hn hext hfr hrow
    refine wp_region_quiet_tail (C := fun w' => ∃ x : Ex wr, w' = x.w) 27 (by kernel_rfl) (by kernel_rfl) ⟨Ex.mk _ ((Ext.refl [] wr).drew), rfl⟩ ?_
    simp only [List.take_succ_cons, List.take_zero, List.drop_succ_cons, List.drop_zero]
    have c0 : ∀ x : Ex wr, x.w.cell? ⟨b, 0, none⟩ = some (.slice (some ⟨g, 0, none⟩) n cap) := fun x => cellOf (x.heap hbr) 0
    have c1 : ∀ x : Ex wr, x.w.cell? ⟨b, 1, none⟩ = some (.int .i64 ((l.length : Nat) : Int)) := fun x => cellOf (x.heap hbr) 1
    have c2 : ∀ x : Ex wr, x.w.cell? ⟨b, 2, none⟩ = some (.iface 122 (.agg #[])) := fun x => cellOf (x.heap hbr) 2
    have c3 : ∀ x : Ex wr, x.w.cell? ⟨g, l.length / 8, none⟩ = some (.int .u8 ((byteOf true l (l.length / 8) : Nat) : Int)) := fun x => x.cell hcur
    repeat (go_big_quiet_step ((go_at_call 128; refine Calls.ext_of (shift_hi _ _ (by omega) (by omega)))))
    refine wpQuiet_nil ?_
    rintro _ ⟨x, rfl⟩
    clear c0 c1 c2 c3
    have e1 := put_hi bit (l.length % 8) hbit
    have e2 := u8_or_nat (byteOf true l (l.length / 8)) (bit * wt true (l.length % 8)) (byteOf_lt _ _ hbin _) (wt_le _ _ _ hbit (by omega))
    simp only [e1, e2]
    clear e1 e2
    have d1 : x.w.cell? ⟨b, 1, none⟩ = some (.int .i64 ((l.length : Nat) : Int)) := cellOf (x.heap hbr) 1
    have d2 : x.w.frozen? ⟨b, 1, none⟩ = false := freeOf (x.heap hbr) 1
    have d3 : x.w.cell? ⟨g, l.length / 8, none⟩ = some (.int .u8 ((byteOf true l (l.length / 8) : Nat) : Int)) := x.cell hcur
    have d4 : x.w.frozen? ⟨g, l.length / 8, none⟩ = false := x.free hcur (hgr _)
    have Hbr := Lib.hid hbr
    clear hcur hgr hbr
    go_wp2_with fail
    go_end0
    exact ⟨rfl, one_done (x := x) hbin hbit hgb Hn.out Hbr.out Hrow.out Hext.out Hfr.out⟩
  · have hm : (((l.length : Nat) : Int) % 8 == 0) = false := by simp; omega
    obtain ⟨g, cap, rfl, _, hg⟩ := hown.form (by omega)
    generalize hnn : (packB true l).length = n at hown hpl hb hne
    have hgb : g ≠ b := fun e => hne (by rw [e]; rfl)
    have hfr : (Value.slice (some ⟨g, 0, none⟩) n cap).ownBlock = some g ∨ w.heap.size ≤ g := .inl rfl
    have hn : n = l.length / 8 + 1 := by omega
    have hrow : w.ownsRow 0 5 1 (.slice (some ⟨g, 0, none⟩) n cap) n ((baseB true l).map b8) := by
      rw [show baseB true l = packB true l by unfold baseB; rw [if_neg h8]]; exact hown
    have hext : Ext (b :: (Value.slice (some ⟨g, 0, none⟩) n cap).ownBlock.toList) w w := Ext.refl _ _
    have Hnn := Lib.hid hnn
    have H8 := Lib.hid h8
    clear hown hnn h8 hpl
    have hbr := hb
    have H := Lib.hid (And.intro hn (And.intro hrow (And.intro hext hfr)))
    clear hn hrow hext hfr
    go_enter Tryz.func62, Tryz.ntmps62
    go_wp2_with fail
    obtain ⟨hn, hrow, hext, hfr⟩ := H.out
    clear H c1 hb hm hg
    obtain ⟨wr, hwr⟩ : ∃ wr, wr = w := ⟨_, rfl⟩
    rw [← hwr] at hbr hrow
    rw [← hwr]
    have hext' : Ext (b :: (Value.slice (some ⟨g, 0, none⟩) n cap).ownBlock.toList) w wr := hwr ▸ hext
    clear hext
    have hext := hext'
    clear hext'
    have Hwr := Lib.hid hwr
    clear hwr
    have Hn := Lib.hid hn
    have Hext := Lib.hid hext
    have Hfr := Lib.hid hfr
    have Hrow := Lib.hid hrow
    have hcur : wr.cell? ⟨g, l.length / 8, none⟩ = some (.int .u8 ((byteOf true l (l.length / 8) : Nat) : Int)) := ownsRow_at hrow (by rw [List.getElem?_map, baseB_get _ _ _ (by omega)]; rfl)
    have hgr := ownsRow_free hrow
    have i0 : (0:Int) ≤ (l.length : Int) / 8 := by omega
    have i1 : (l.length : Int) / 8 < (n : Int) := by omega
    clear hn hext hfr hrow
    refine wp_region_quiet_tail (C := fun w' => ∃ x : Ex wr, w' = x.w) 27 (by kernel_rfl) (by kernel_rfl) ⟨Ex.mk _ ((Ext.refl [] wr).drew), rfl⟩ ?_
    simp only [List.take_succ_cons, List.take_zero, List.drop_succ_cons, List.drop_zero]
    have c0 : ∀ x : Ex wr, x.w.cell? ⟨b, 0, none⟩ = some (.slice (some ⟨g, 0, none⟩) n cap) := fun x => cellOf (x.heap hbr) 0
    have c1 : ∀ x : Ex wr, x.w.cell? ⟨b, 1, none⟩ = some (.int .i64 ((l.length : Nat) : Int)) := fun x => cellOf (x.heap hbr) 1
    have c2 : ∀ x : Ex wr, x.w.cell? ⟨b, 2, none⟩ = some (.iface 122 (.agg #[])) := fun x => cellOf (x.heap hbr) 2
    have c3 : ∀ x : Ex wr, x.w.cell? ⟨g, l.length / 8, none⟩ = some (.int .u8 ((byteOf true l (l.length / 8) : Nat) : Int)) := fun x => x.cell hcur
    repeat (go_big_quiet_step ((go_at_call 128; refine Calls.ext_of (shift_hi _ _ (by omega) (by omega)))))
    refine wpQuiet_nil ?_
    rintro _ ⟨x, rfl⟩
    clear c0 c1 c2 c3
    have e1 := put_hi bit (l.length % 8) hbit
    have e2 := u8_or_nat (byteOf true l (l.length / 8)) (bit * wt true (l.length % 8)) (byteOf_lt _ _ hbin _) (wt_le _ _ _ hbit (by omega))
    simp only [e1, e2]
    clear e1 e2
    have d1 : x.w.cell? ⟨b, 1, none⟩ = some (.int .i64 ((l.length : Nat) : Int)) := cellOf (x.heap hbr) 1
    have d2 : x.w.frozen? ⟨b, 1, none⟩ = false := freeOf (x.heap hbr) 1
    have d3 : x.w.cell? ⟨g, l.length / 8, none⟩ = some (.int .u8 ((byteOf true l (l.length / 8) : Nat) : Int)) := x.cell hcur
    have d4 : x.w.frozen? ⟨g, l.length / 8, none⟩ = false := x.free hcur (hgr _)
    have Hbr := Lib.hid hbr
    clear hcur hgr hbr
    go_wp2_with fail
    go_end0
    exact ⟨rfl, one_done (x := x) hbin hbit hgb Hn.out Hbr.out Hrow.out Hext.out Hfr.out⟩

set_option maxRecDepth 100000 in
set_option maxHeartbeats 4000000 in
theorem one_lo (b : Nat) (F : List Nat) (l : List Nat) (bit : Nat) (w : World) (hl : l.length < 2 ^ 40) (hbit : bit ≤ 1) (hW : Wtr w b F false l) :
    Calls Tryz.prog 62 #[.pointer (some ⟨b, 0, none⟩), .int .u64 bit] w fun e w' => e = .returned (.tuple #[]) ∧ ∃ F', Wtr w' b F' false (l ++ [bit]) ∧ Ext F w w' ∧ Fr w F F' := by
  obtain ⟨v, hb, hown, rfl, hne, hbin⟩ := hW
  have hpl := packB_length false l
  have c1 : w.cell? ⟨b, 1, none⟩ = some (.int .i64 ((l.length : Nat) : Int)) := cellOf hb 1
  have bb : (bit : Int) ≤ 1 := by omega
  by_cases h8 : l.length % 8 = 0
  · obtain ⟨i0, hi, hz0, hz1, hz2⟩ := info_parts infoByte
    have hm : (((l.length : Nat) : Int) % 8 == 0) = true := by simp; omega
    have c0 : w.cell? ⟨b, 0, none⟩ = some v := cellOf hb 0
    have f0 := freeOf hb 0
    have hsz := lt_of_block hb
    generalize hnn : (packB false l).length = n0 at hown hpl
    have Hnn := Lib.hid hnn
    have H8 := Lib.hid h8
    have Hpl := Lib.hid hpl
    have hn0 : n0 ≤ 2 ^ 40 := by omega
    clear hnn h8 hpl
    go_enter Tryz.func62, Tryz.ntmps62
    go_wp2_with (first | (at_builtin; refine wpList_append_lies _ rfl _ _ 28 rfl 0 5 i0 _ 1 1 Tryz.underlying28 hi hz0 hz1 hz2 rfl (by decide) v n0 _ rfl (hown.alloc _) ⟨w.heap.size, 0, none⟩ 1 1 [.int .u8 0] rfl rfl (cell_one_new _ _ _) (by simp [Value.oneCell']) (by decide) (by unfold maxLen; omega) (by omega) (by omega) (w.heap.size + 1) (by simp) ?_; intro g cap w1 hown1 hgrow hat hlt; have b1 : w1.heap[b]? = some (wtr v l.length false) := grown_keep hgrow (heap_alloc_old _ hb) hne; have k0 := cellOf b1 0; have k1 := freeOf b1 0; clear c0 f0 c1))
    have hgb : g ≠ b := fun e => by
      rcases hat with h | h
      · exact hne (by rw [h, e])
      · omega
    have hfr : v.ownBlock = some g ∨ w.heap.size ≤ g := hat.elim .inl (fun h => .inr (by omega))
    have hn : n0 + 1 = l.length / 8 + 1 := by have := Hpl.out; have := H8.out; omega
    have hbr : (w1.setCell ⟨b, 0, none⟩ (.slice (some ⟨g, 0, none⟩) (n0 + 1) cap)).heap[b]? = some (wtr (.slice (some ⟨g, 0, none⟩) (n0 + 1) cap) l.length false) := by
      rw [heap_setCell_same b1]; simp [wtr]
    have hrow : (w1.setCell ⟨b, 0, none⟩ (.slice (some ⟨g, 0, none⟩) (n0 + 1) cap)).ownsRow 0 5 1 (.slice (some ⟨g, 0, none⟩) (n0 + 1) cap) (n0 + 1) ((baseB false l).map b8) := by
      have h1 := ownsRow_setCell_other hown1 (a := ⟨b, 0, none⟩) (fun e => hgb (by simpa [Value.ownBlock] using e)) (.slice (some ⟨g, 0, none⟩) (n0 + 1) cap)
      rw [show baseB false l = packB false l ++ [0] by unfold baseB; rw [if_pos H8.out], List.map_append]
      exact h1
    have hext : Ext (b :: v.ownBlock.toList) w (w1.setCell ⟨b, 0, none⟩ (.slice (some ⟨g, 0, none⟩) (n0 + 1) cap)) :=
      (((Ext.refl _ w).alloc _).grown hgrow (fun k hk => .inl (by simp [hk]))).setCell _ _ (by simp)
    generalize w1.setCell ⟨b, 0, none⟩ (.slice (some ⟨g, 0, none⟩) (n0 + 1) cap) = wr at *
    generalize n0 + 1 = n at *
    clear hown1 hgrow hat hlt b1 k0 k1 hown hm hb hsz hi hz0 hz1 hz2
    have Hn := Lib.hid hn
    have Hext := Lib.hid hext
    have Hfr := Lib.hid hfr
    have Hrow := Lib.hid hrow
    have hcur : wr.cell? ⟨g, l.length / 8, none⟩ = some (.int .u8 ((byteOf false l (l.length / 8) : Nat) : Int)) := ownsRow_at hrow (by rw [List.getElem?_map, baseB_get _ _ _ (by omega)]; rfl)
    have hgr := ownsRow_free hrow
    have i0 : (0:Int) ≤ (l.length : Int) / 8 := by omega
    have i1 : (l.length : Int) / 8 < (n : Int) := by omega
    clear hn hext hfr hrow
    refine wp_region_quiet_tail (C := fun w' => ∃ x : Ex wr, w' = x.w) 27 (by kernel_rfl) (by kernel_rfl) ⟨Ex.mk _ ((Ext.refl [] wr).drew), rfl⟩ ?_
    simp only [List.take_succ_cons, List.take_zero, List.drop_succ_cons, List.drop_zero]
    have c0 : ∀ x : Ex wr, x.w.cell? ⟨b, 0, none⟩ = some (.slice (some ⟨g, 0, none⟩) n cap) := fun x => cellOf (x.heap hbr) 0
    have c1 : ∀ x : Ex wr, x.w.cell? ⟨b, 1, none⟩ = some (.int .i64 ((l.length : Nat) : Int)) := fun x => cellOf (x.heap hbr) 1
    have c2 : ∀ x : Ex wr, x.w.cell? ⟨b, 2, none⟩ = some (.iface 123 (.agg #[])) := fun x => cellOf (x.heap hbr) 2
    have c3 : ∀ x : Ex wr, x.w.cell? ⟨g, l.length / 8, none⟩ = some (.int .u8 ((byteOf false l (l.length / 8) : Nat) : Int)) := fun x => x.cell hcur
    repeat (go_big_quiet_step ((go_at_call 131; refine Calls.ext_of (shift_lo _ _))))
    refine wpQuiet_nil ?_
    rintro _ ⟨x, rfl⟩
    clear c0 c1 c2 c3
    have e1 := put_lo bit (l.length % 8) hbit (by omega)
    have e2 := u8_or_nat (byteOf false l (l.length / 8)) (bit * wt false (l.length % 8)) (byteOf_lt _ _ hbin _) (wt_le _ _ _ hbit (by omega))
    simp only [e1, e2]
    clear e1 e2
    have d1 : x.w.cell? ⟨b, 1, none⟩ = some (.int .i64 ((l.length : Nat) : Int)) := cellOf (x.heap hbr) 1
    have d2 : x.w.frozen? ⟨b, 1, none⟩ = false := freeOf (x.heap hbr) 1
    have d3 : x.w.cell? ⟨g, l.length / 8, none⟩ = some (.int .u8 ((byteOf false l (l.length / 8) : Nat) : Int)) := x.cell hcur
    have d4 : x.w.frozen? ⟨g, l.length / 8, none⟩ = false := x.free hcur (hgr _)
    have Hbr := Lib.hid hbr
    clear hcur hgr hbr
    go_wp2_with fail
    go_end0
    exact ⟨rfl, one_done (x := x) hbin hbit hgb Hn.out Hbr.out Hrow.out Hext.out Hfr.out⟩
  · have hm : (((l.length : Nat) : Int) % 8 == 0) = false := by simp; omega
    obtain ⟨g, cap, rfl, _, hg⟩ := hown.form (by omega)
    generalize hnn : (packB false l).length = n at hown hpl hb hne
    have hgb : g ≠ b := fun e => hne (by rw [e]; rfl)
    have hfr : (Value.slice (some ⟨g, 0, none⟩) n cap).ownBlock = some g ∨ w.heap.size ≤ g := .inl rfl
    have hn : n = l.length / 8 + 1 := by omega
    have hrow : w.ownsRow 0 5 1 (.slice (some ⟨g, 0, none⟩) n cap) n ((baseB false l).map b8) := by
      rw [show baseB false l = packB false l by unfold baseB; rw [if_neg h8]]; exact hown
    have hext : Ext (b :: (Value.slice (some ⟨g, 0, none⟩) n cap).ownBlock.toList) w w := Ext.refl _ _
    have Hnn := Lib.hid hnn
    have H8 := Lib.hid h8
    clear hown hnn h8 hpl
    have hbr := hb
    have H := Lib.hid (And.intro hn (And.intro hrow (And.intro hext hfr)))
    clear hn hrow hext hfr
    go_enter Tryz.func62, Tryz.ntmps62
    go_wp2_with fail
    obtain ⟨hn, hrow, hext, hfr⟩ := H.out
    clear H c1 hb hm hg
    obtain ⟨wr, hwr⟩ : ∃ wr, wr = w := ⟨_, rfl⟩
    rw [← hwr] at hbr hrow
    rw [← hwr]
    have hext' : Ext (b :: (Value.slice (some ⟨g, 0, none⟩) n cap).ownBlock.toList) w wr := hwr ▸ hext
    clear hext
    have hext := hext'
    clear hext'
    have Hwr := Lib.hid hwr
    clear hwr
    have Hn := Lib.hid hn
    have Hext := Lib.hid hext
    have Hfr := Lib.hid hfr
    have Hrow := Lib.hid hrow
    have hcur : wr.cell? ⟨g, l.length / 8, none⟩ = some (.int .u8 ((byteOf false l (l.length / 8) : Nat) : Int)) := ownsRow_at hrow (by rw [List.getElem?_map, baseB_get _ _ _ (by omega)]; rfl)
    have hgr := ownsRow_free hrow
    have i0 : (0:Int) ≤ (l.length : Int) / 8 := by omega
    have i1 : (l.length : Int) / 8 < (n : Int) := by omega
    clear hn hext hfr hrow
    refine wp_region_quiet_tail (C := fun w' => ∃ x : Ex wr, w' = x.w) 27 (by kernel_rfl) (by kernel_rfl) ⟨Ex.mk _ ((Ext.refl [] wr).drew), rfl⟩ ?_
    simp only [List.take_succ_cons, List.take_zero, List.drop_succ_cons, List.drop_zero]
    have c0 : ∀ x : Ex wr, x.w.cell? ⟨b, 0, none⟩ = some (.slice (some ⟨g, 0, none⟩) n cap) := fun x => cellOf (x.heap hbr) 0
    have c1 : ∀ x : Ex wr, x.w.cell? ⟨b, 1, none⟩ = some (.int .i64 ((l.length : Nat) : Int)) := fun x => cellOf (x.heap hbr) 1
    have c2 : ∀ x : Ex wr, x.w.cell? ⟨b, 2, none⟩ = some (.iface 123 (.agg #[])) := fun x => cellOf (x.heap hbr) 2
    have c3 : ∀ x : Ex wr, x.w.cell? ⟨g, l.length / 8, none⟩ = some (.int .u8 ((byteOf false l (l.length / 8) : Nat) : Int)) := fun x => x.cell hcur
    repeat (go_big_quiet_step ((go_at_call 131; refine Calls.ext_of (shift_lo _ _))))
    refine wpQuiet_nil ?_
    rintro _ ⟨x, rfl⟩
    clear c0 c1 c2 c3
    have e1 := put_lo bit (l.length % 8) hbit (by omega)
    have e2 := u8_or_nat (byteOf false l (l.length / 8)) (bit * wt false (l.length % 8)) (byteOf_lt _ _ hbin _) (wt_le _ _ _ hbit (by omega))
    simp only [e1, e2]
    clear e1 e2
    have d1 : x.w.cell? ⟨b, 1, none⟩ = some (.int .i64 ((l.length : Nat) : Int)) := cellOf (x.heap hbr) 1
    have d2 : x.w.frozen? ⟨b, 1, none⟩ = false := freeOf (x.heap hbr) 1
    have d3 : x.w.cell? ⟨g, l.length / 8, none⟩ = some (.int .u8 ((byteOf false l (l.length / 8) : Nat) : Int)) := x.cell hcur
    have d4 : x.w.frozen? ⟨g, l.length / 8, none⟩ = false := x.free hcur (hgr _)
    have Hbr := Lib.hid hbr
    clear hcur hgr hbr
    go_wp2_with fail
    go_end0
    exact ⟨rfl, one_done (x := x) hbin hbit hgb Hn.out Hbr.out Hrow.out Hext.out Hfr.out⟩

end Go.Proofs.YtnapnaaejignaaaGreat.Bt

/-! BitsW2: What the bit writer's functions do, function by function: Put, Align, Len, Text, NewWriter. -/
namespace Go.Proofs.YtnapnaaejignaaaGreat.Bt
open Go.RowKit

@[go_sem] theorem meth_split_hi (F : Nat) (w : World) : (method (F + 1) 122 (.agg #[]) "pagemender/bits.split").run Tryz.prog w = .ok (129, .agg #[]) w := by kernel_rfl
@[go_sem] theorem meth_split_lo (F : Nat) (w : World) : (method (F + 1) 123 (.agg #[]) "pagemender/bits.split").run Tryz.prog w = .ok (132, .agg #[]) w := by kernel_rfl
theorem u32_and_one (x : Nat) (h : x < 2 ^ 32) : bits BinOp.and IntKind.u32 (x : Int) 1 = ((x % 2 : Nat) : Int) := by
  have h1 := u32_and_nat x 1 (by omega) (by omega)
  rw [Nat.and_one_is_mod] at h1
  exact h1
theorem split_hi (v n i : Nat) (w : World) (hv : v < 2 ^ 32) (hi : i < n) (hn : n ≤ 32) :
    Calls Tryz.prog 129 #[.agg #[], .int .u32 v, .int .i64 n, .int .i64 i] w fun e w' => e = .returned (.int .u64 ((v / 2 ^ (n - 1 - i) % 2 : Nat) : Int)) ∧ Ext [] w w' := by
  have h1 := u32_and_one (v / 2 ^ (n - 1 - i)) (Nat.lt_of_le_of_lt (Nat.div_le_self _ _) hv)
  have h2 : (((v / 2 ^ (n - 1 - i) : Nat)) : Int) = (v : Int) / 2 ^ (n - 1 - i) := by push_cast; rfl
  rw [h2] at h1
  have h3 : v / 2 ^ (n - 1 - i) % 2 < 2 := by omega
  clear h2
  go_enter Tryz.func129, Tryz.ntmps129
  go_wp2
  go_ret
  exact ⟨rfl, by repeat (first | exact Ext.refl _ _ | apply Ext.alloc)⟩
theorem split_lo (v n i : Nat) (w : World) (hv : v < 2 ^ 32) (hi : i < n) (hn : n ≤ 32) :
    Calls Tryz.prog 132 #[.agg #[], .int .u32 v, .int .i64 n, .int .i64 i] w fun e w' => e = .returned (.int .u64 ((v / 2 ^ i % 2 : Nat) : Int)) ∧ Ext [] w w' := by
  have h1 := u32_and_one (v / 2 ^ i) (Nat.lt_of_le_of_lt (Nat.div_le_self _ _) hv)
  have h2 : (((v / 2 ^ i : Nat)) : Int) = (v : Int) / 2 ^ i := by push_cast; rfl
  rw [h2] at h1
  have h3 : v / 2 ^ i % 2 < 2 := by omega
  clear h2
  go_enter Tryz.func132, Tryz.ntmps132
  go_wp2
  go_ret
  exact ⟨rfl, by repeat (first | exact Ext.refl _ _ | apply Ext.alloc)⟩

theorem wput_nil (v n : Int) (w : World) : Calls Tryz.prog 39 #[.pointer none, .int .u32 v, .int .i64 n] w fun e w' => e = .returned (.int .i64 1) ∧ w = w' := by
  go_enter Tryz.func39, Tryz.ntmps39
  go_wp2
  go_ret
  exact ⟨rfl, rfl⟩
theorem wlen_nil (w : World) : Calls Tryz.prog 126 #[.pointer none] w fun e w' => e = .returned (.int .i64 0) ∧ w = w' := by
  go_enter Tryz.func126, Tryz.ntmps126
  go_wp2
  go_ret
  exact ⟨rfl, rfl⟩
theorem wtext_nil (w : World) : Calls Tryz.prog 52 #[.pointer none] w fun e w' => e = .returned (.string ⟨#[]⟩) ∧ w = w' := by
  go_enter Tryz.func52, Tryz.ntmps52
  go_wp2
  go_ret
  exact ⟨rfl, rfl⟩

theorem Wtr.ext {S : List Nat} {w w' : World} {b : Nat} {F : List Nat} {hi : Bool} {l : List Nat} (h : Wtr w b F hi l) (hx : Ext S w w') (hS : ∀ k ∈ F, k ∉ S) : Wtr w' b F hi l := by
  obtain ⟨v, hb, hown, rfl, hne, hbin⟩ := h
  exact ⟨v, hx.keep hb (hS b (by simp)), ownsRow_ext hown hx (fun g hg => hS g (by simp [hg])), rfl, hne, hbin⟩
theorem wlen_any (b : Nat) (F : List Nat) (hi : Bool) (l : List Nat) (w : World) (hW : Wtr w b F hi l) :
    Calls Tryz.prog 126 #[.pointer (some ⟨b, 0, none⟩)] w fun e w' => e = .returned (.int .i64 l.length) ∧ w = w' := by
  obtain ⟨v, hb, _⟩ := hW
  have c1 := cellOf hb 1
  clear hb
  go_enter Tryz.func126, Tryz.ntmps126
  go_wp2
  go_ret
  exact ⟨rfl, rfl⟩
theorem nums_text (bs : List Nat) : strOfNums (bs.map Int.ofNat) = txt bs := by
  simp [strOfNums, txt]
theorem run_row_text {w : World} {v : Value} {n : Nat} {bs : List Nat} (h : w.ownsRow 0 5 1 v n (bs.map b8)) : (convert 28 9 v).run Tryz.prog w = .ok (.string (txt bs)) w := by
  rcases h.2 with ⟨rfl, h0⟩ | ⟨g, cap, cur, rfl, _, hg, hnc, _, hcs, htake⟩
  · have hx : bs = [] := by have := h.1; simp [h0] at this; exact this
    subst hx
    exact run_convert_bytes_nil w 28 5 Tryz.underlying28 Tryz.underlying5 0 0 9 Tryz.underlying9
  · have hl : bs.length = n := by have := h.1; simpa using this
    have := run_convert_bytes_arg w 28 5 Tryz.underlying28 Tryz.underlying5 g 0 n cap (bs.map Int.ofNat) (by simpa using hl) (fun i hi => by
      have := ownsRow_at (i := i) (u := b8 (bs.getD i 0)) h (by rw [List.getElem?_map, List.getElem?_eq_getElem (by omega), List.getD_eq_getElem?_getD, List.getElem?_eq_getElem (by omega)]; rfl)
      rw [Nat.zero_add, this]
      simp [b8, List.getD_eq_getElem?_getD]
      cases bs[i]? <;> rfl) 9 Tryz.underlying9
    rw [nums_text] at this
    exact this
theorem wtext_any (b : Nat) (F : List Nat) (hi : Bool) (l : List Nat) (w : World) (hW : Wtr w b F hi l) :
    Calls Tryz.prog 52 #[.pointer (some ⟨b, 0, none⟩)] w fun e w' => e = .returned (.string (txt (packB hi l))) ∧ w = w' := by
  obtain ⟨v, hb, hown, _⟩ := hW
  have c0 : w.cell? ⟨b, 0, none⟩ = some v := cellOf hb 0
  have hc := run_row_text hown
  clear hb
  go_enter Tryz.func52, Tryz.ntmps52
  go_wp2
  go_ret
  exact ⟨rfl, rfl⟩
theorem wnew_any (hi : Bool) (w : World) : Calls Tryz.prog 45 #[.bool hi] w fun e w' =>
    e = .returned (.pointer (some ⟨w.heap.size, 0, none⟩)) ∧ w' = w.alloc (wtr (.slice none 0 0) 0 hi) := by
  go_enter Tryz.func45, Tryz.ntmps45
  go_wp2_with (first | (go_at_call 42; refine (from_any _ _).mono ?_; rintro e w1 ⟨rfl, rfl⟩; simp only [endv]))
  all_goals
    go_ret
    exact ⟨rfl, rfl⟩
theorem Wtr.new (w : World) (hi : Bool) : Wtr (w.alloc (wtr (.slice none 0 0) 0 hi)) w.heap.size [w.heap.size] hi [] :=
  ⟨.slice none 0 0, heap_alloc_at _, World.ownsRow_nil _ _ _ _, rfl, by simp [Value.ownBlock], fun x h => by cases h⟩

set_option maxRecDepth 100000 in
set_option maxHeartbeats 4000000 in
theorem wput_ok_hi (b : Nat) (F : List Nat) (l : List Nat) (v n : Nat) (w : World) (hl : l.length < 2 ^ 39) (hv : v < 2 ^ 32) (hn : n ≤ 32) (hvn : v < 2 ^ n) (hW : Wtr w b F true l) :
    Calls Tryz.prog 39 #[.pointer (some ⟨b, 0, none⟩), .int .u32 v, .int .i64 n] w fun e w' => e = .returned (.int .i64 0) ∧ ∃ F', Wtr w' b F' true (l ++ bitsOf true v n) ∧ Ext F w w' ∧ Fr w F F' := by
  have hz : (v : Int) / 2 ^ n = 0 := by
    have h1 : v / 2 ^ n = 0 := Nat.div_eq_of_lt hvn
    have h2 : ((v / 2 ^ n : Nat) : Int) = (v : Int) / 2 ^ n := by push_cast; rfl
    rw [← h2, h1]; rfl
  have hz2 : ((v : Int) / 2 ^ n != 0) = false := by rw [hz]; rfl
  clear hz
  have HW := Lib.hid hW
  clear hW
  go_enter Tryz.func39, Tryz.ntmps39
  go_wp2_with fail
  go_loopg [26] n (fun g i wr => ∃ k : Nat, g + k = n ∧ i = .int .i64 k ∧ ∃ F', Wtr wr b F' true (l ++ (bitsOf true v n).take k) ∧ Ext F w wr ∧ Fr w F F')
  case atStart => exact ⟨0, by omega, rfl, F, by simpa using HW.out, Ext.refl _ _, Fr.refl _ _⟩
  case round =>
    obtain ⟨k, hk, rfl, F', hWr, hx, hf⟩ := hrel
    by_cases hkn : k < n
    · have hb : ∃ vv, wr.heap[b]? = some (wtr vv (l ++ (bitsOf true v n).take k).length true) := by obtain ⟨vv, h, _⟩ := hWr; exact ⟨vv, h⟩
      obtain ⟨vv, hb⟩ := hb
      have c2 : wr.cell? ⟨b, 2, none⟩ = some (.iface 122 (.agg #[])) := cellOf hb 2
      have hbit : (v / 2 ^ (n - 1 - k) % 2) < 2 := by omega
      have hlen : (l ++ (bitsOf true v n).take k).length < 2 ^ 40 := by simp [bitsOf_length]; omega
      have H := Lib.hid (And.intro hWr (And.intro hx hf))
      clear hWr hx hf hb
      go_wp2_with (first
        | (go_at_call 129; refine (split_hi v n k _ hv hkn hn).mono ?_; rintro e w1 ⟨rfl, hx1⟩)
        | (go_at_call 62; refine (one_hi b F' (l ++ (bitsOf true v n).take k) (v / 2 ^ (n - 1 - k) % 2) w1 hlen (by omega) (H.out.1.ext hx1 (by simp))).mono ?_; rintro e w2 ⟨rfl, F2, hW2, hx2, hf2⟩))
      go_roundg (n - (k + 1))
      case measure => omega
      case rel =>
        obtain ⟨hWr, hx, hf⟩ := H.out
        refine ⟨k + 1, by omega, by go_num, F2, ?_, ext_fr (hx.trans hx1.weak) hx2 hf, hf.trans hf2 (Nat.le_trans hx.size hx1.size)⟩
        have e : (bitsOf true v n).take (k + 1) = (bitsOf true v n).take k ++ [v / 2 ^ (n - 1 - k) % 2] := by
          rw [List.take_succ_eq_append_getElem (by rw [bitsOf_length]; exact hkn)]
          simp [bitsOf]
        rw [e, ← List.append_assoc]
        exact hW2
    · have e : k = n := by omega
      have e2 : (bitsOf true v n).take k = bitsOf true v n := List.take_of_length_le (by rw [bitsOf_length]; omega)
      have H := Lib.hid (And.intro hWr (And.intro hx (And.intro hf e2)))
      have hkn' : n ≤ k := by omega
      clear hWr hx hf e e2 hkn
      go_wp2_with fail
      go_ret
      obtain ⟨hWr, hx, hf, e2⟩ := H.out
      rw [e2] at hWr
      exact ⟨rfl, F', hWr, hx, hf⟩

set_option maxRecDepth 100000 in
set_option maxHeartbeats 4000000 in
theorem wput_ok_lo (b : Nat) (F : List Nat) (l : List Nat) (v n : Nat) (w : World) (hl : l.length < 2 ^ 39) (hv : v < 2 ^ 32) (hn : n ≤ 32) (hvn : v < 2 ^ n) (hW : Wtr w b F false l) :
    Calls Tryz.prog 39 #[.pointer (some ⟨b, 0, none⟩), .int .u32 v, .int .i64 n] w fun e w' => e = .returned (.int .i64 0) ∧ ∃ F', Wtr w' b F' false (l ++ bitsOf false v n) ∧ Ext F w w' ∧ Fr w F F' := by
  have hz : (v : Int) / 2 ^ n = 0 := by
    have h1 : v / 2 ^ n = 0 := Nat.div_eq_of_lt hvn
    have h2 : ((v / 2 ^ n : Nat) : Int) = (v : Int) / 2 ^ n := by push_cast; rfl
    rw [← h2, h1]; rfl
  have hz2 : ((v : Int) / 2 ^ n != 0) = false := by rw [hz]; rfl
  clear hz
  have HW := Lib.hid hW
  clear hW
  go_enter Tryz.func39, Tryz.ntmps39
  go_wp2_with fail
  go_loopg [26] n (fun g i wr => ∃ k : Nat, g + k = n ∧ i = .int .i64 k ∧ ∃ F', Wtr wr b F' false (l ++ (bitsOf false v n).take k) ∧ Ext F w wr ∧ Fr w F F')
  case atStart => exact ⟨0, by omega, rfl, F, by simpa using HW.out, Ext.refl _ _, Fr.refl _ _⟩
  case round =>
    obtain ⟨k, hk, rfl, F', hWr, hx, hf⟩ := hrel
    by_cases hkn : k < n
    · have hb : ∃ vv, wr.heap[b]? = some (wtr vv (l ++ (bitsOf false v n).take k).length false) := by obtain ⟨vv, h, _⟩ := hWr; exact ⟨vv, h⟩
      obtain ⟨vv, hb⟩ := hb
      have c2 : wr.cell? ⟨b, 2, none⟩ = some (.iface 123 (.agg #[])) := cellOf hb 2
      have hbit : (v / 2 ^ k % 2) < 2 := by omega
      have hlen : (l ++ (bitsOf false v n).take k).length < 2 ^ 40 := by simp [bitsOf_length]; omega
      have H := Lib.hid (And.intro hWr (And.intro hx hf))
      clear hWr hx hf hb
      go_wp2_with (first
        | (go_at_call 132; refine (split_lo v n k _ hv hkn hn).mono ?_; rintro e w1 ⟨rfl, hx1⟩)
        | (go_at_call 62; refine (one_lo b F' (l ++ (bitsOf false v n).take k) (v / 2 ^ k % 2) w1 hlen (by omega) (H.out.1.ext hx1 (by simp))).mono ?_; rintro e w2 ⟨rfl, F2, hW2, hx2, hf2⟩))
      go_roundg (n - (k + 1))
      case measure => omega
      case rel =>
        obtain ⟨hWr, hx, hf⟩ := H.out
        refine ⟨k + 1, by omega, by go_num, F2, ?_, ext_fr (hx.trans hx1.weak) hx2 hf, hf.trans hf2 (Nat.le_trans hx.size hx1.size)⟩
        have e : (bitsOf false v n).take (k + 1) = (bitsOf false v n).take k ++ [v / 2 ^ k % 2] := by
          rw [List.take_succ_eq_append_getElem (by rw [bitsOf_length]; exact hkn)]
          simp [bitsOf]
        rw [e, ← List.append_assoc]
        exact hW2
    · have e : k = n := by omega
      have e2 : (bitsOf false v n).take k = bitsOf false v n := List.take_of_length_le (by rw [bitsOf_length]; omega)
      have H := Lib.hid (And.intro hWr (And.intro hx (And.intro hf e2)))
      have hkn' : n ≤ k := by omega
      clear hWr hx hf e e2 hkn
      go_wp2_with fail
      go_ret
      obtain ⟨hWr, hx, hf, e2⟩ := H.out
      rw [e2] at hWr
      exact ⟨rfl, F', hWr, hx, hf⟩

theorem wput_arg (b : Nat) (v n : Int) (w : World) (h0 : 0 ≤ v) (hv : v < 4294967296) (hn : n < 0 ∨ 32 < n ∨ (0 ≤ n ∧ n ≤ 32 ∧ (2 : Int) ^ n.toNat ≤ v)) :
    Calls Tryz.prog 39 #[.pointer (some ⟨b, 0, none⟩), .int .u32 v, .int .i64 n] w fun e w' => e = .returned (.int .i64 2) ∧ w = w' := by
  rcases hn with hn | hn | ⟨hn0, hn1, hn⟩
  · go_enter Tryz.func39, Tryz.ntmps39
    go_wp2_with fail
    go_ret
    exact ⟨rfl, rfl⟩
  · have hn' : ¬ n < 0 := by omega
    go_enter Tryz.func39, Tryz.ntmps39
    go_wp2_with fail
    go_ret
    exact ⟨rfl, rfl⟩
  · have hz : 1 ≤ v / 2 ^ n.toNat := by
      have hp : (0 : Int) < 2 ^ n.toNat := Int.pow_pos (by decide)
      exact (Int.le_ediv_iff_mul_le hp).2 (by omega)
    have hz2 : (v / 2 ^ n.toNat != 0) = true := by rw [bne_iff_ne]; omega
    have hn' : ¬ n < 0 := by omega
    have hn2 : ¬ 32 < n := by omega
    clear hz hn
    go_enter Tryz.func39, Tryz.ntmps39
    go_wp2_with fail
    go_ret
    exact ⟨rfl, rfl⟩

end Go.Proofs.YtnapnaaejignaaaGreat.Bt

/-! BitsUse: The bit reader's and writer's functions as they are used: contracts for either end, whose worlds are told by 'Ext'; kit.Pick. -/
namespace Go.Proofs.YtnapnaaejignaaaGreat.Bt
open Go.RowKit

theorem rnew (s : ByteArray) (hi : Bool) (w : World) : Calls Tryz.prog 24 #[.string s, .bool hi] w fun e w' =>
    ∃ b, e = .returned (.pointer (some ⟨b, 0, none⟩)) ∧ w.heap.size ≤ b ∧ w'.heap[b]? = some (rdr s 0 hi) ∧ Ext [] w w' :=
  (rnew_any s hi w).mono fun _ _ ⟨he, hw⟩ => ⟨w.heap.size, he, Nat.le_refl _, by rw [hw]; exact heap_alloc_at _, by rw [hw]; exact (Ext.refl _ _).alloc _⟩
theorem wnew (hi : Bool) (w : World) : Calls Tryz.prog 45 #[.bool hi] w fun e w' =>
    ∃ b, e = .returned (.pointer (some ⟨b, 0, none⟩)) ∧ w.heap.size ≤ b ∧ Wtr w' b [b] hi [] ∧ Ext [] w w' :=
  (wnew_any hi w).mono fun _ _ ⟨he, hw⟩ => ⟨w.heap.size, he, Nat.le_refl _, by rw [hw]; exact Wtr.new _ _, by rw [hw]; exact (Ext.refl _ _).alloc _⟩
theorem get_ok (b : Nat) (s : ByteArray) (at_ n : Nat) (hi : Bool) (w : World) (hs : s.size ≤ 140737488355328) (hn : n ≤ 32) (ha : at_ + n ≤ 8 * s.size) (hb : w.heap[b]? = some (rdr s at_ hi)) :
    Calls Tryz.prog 66 #[.pointer (some ⟨b, 0, none⟩), .int .i64 n] w fun e w' =>
      e = .returned (.tuple #[.int .u32 (getv s hi at_ n), .int .i64 0]) ∧ w'.heap[b]? = some (rdr s (at_ + n) hi) ∧ Ext [b] w w' := by
  cases hi
  · exact get_ok_lo b s at_ n w hs hn ha hb
  · exact get_ok_hi b s at_ n w hs hn ha hb
theorem put_ok (b : Nat) (F : List Nat) (l : List Nat) (v n : Nat) (hi : Bool) (w : World) (hl : l.length < 2 ^ 39) (hv : v < 2 ^ 32) (hn : n ≤ 32) (hvn : v < 2 ^ n) (hW : Wtr w b F hi l) :
    Calls Tryz.prog 39 #[.pointer (some ⟨b, 0, none⟩), .int .u32 v, .int .i64 n] w fun e w' => e = .returned (.int .i64 0) ∧ ∃ F', Wtr w' b F' hi (l ++ bitsOf hi v n) ∧ Ext F w w' ∧ Fr w F F' := by
  cases hi
  · exact wput_ok_lo b F l v n w hl hv hn hvn hW
  · exact wput_ok_hi b F l v n w hl hv hn hvn hW
theorem Wtr.lt {w : World} {b : Nat} {F : List Nat} {hi : Bool} {l : List Nat} (h : Wtr w b F hi l) : ∀ k ∈ F, k < w.heap.size := by
  obtain ⟨v, hb, hown, rfl, _⟩ := h
  intro k hk
  rcases List.mem_cons.1 hk with rfl | hk
  · exact lt_of_block hb
  · exact (hown.lt k (by simpa using hk)).2
theorem Wtr.bin {w : World} {b : Nat} {F : List Nat} {hi : Bool} {l : List Nat} (h : Wtr w b F hi l) : Bin l := by obtain ⟨_, _, _, _, _, h⟩ := h; exact h

/-- the objects, as 'Sep' has them -/
def oR (b : Nat) (s : ByteArray) (at_ : Nat) (hi : Bool) : Ob := Ob.one b (rdr s at_ hi)
def oW (b : Nat) (F : List Nat) (hi : Bool) (l : List Nat) : Ob where
  F := F
  P := fun w => Wtr w b F hi l
  ok := fun h hx hS => h.ext hx hS
  lt := fun h => h.lt
section
variable {w0 w : World} {L : List Ob}
theorem sRnew (s : ByteArray) (hi : Bool) (S : Sep w0 w L) : Calls Tryz.prog 24 #[.string s, .bool hi] w fun e w' =>
    ∃ b, e = .returned (.pointer (some ⟨b, 0, none⟩)) ∧ Sep w0 w' (oR b s 0 hi :: L) :=
  (rnew s hi w).mono fun _ _ ⟨b, he, hb, h, hx⟩ => ⟨b, he, S.new hx _ h (fun k hk => by rw [List.mem_singleton.1 hk]; exact hb)⟩
theorem sWnew (hi : Bool) (S : Sep w0 w L) : Calls Tryz.prog 45 #[.bool hi] w fun e w' =>
    ∃ b, e = .returned (.pointer (some ⟨b, 0, none⟩)) ∧ Sep w0 w' (oW b [b] hi [] :: L) :=
  (wnew hi w).mono fun _ _ ⟨b, he, hb, h, hx⟩ => ⟨b, he, S.new hx _ h (fun k hk => by rw [List.mem_singleton.1 hk]; exact hb)⟩
theorem sGet (i : Nat) {b : Nat} {s : ByteArray} {at_ n : Nat} {hi : Bool} (S : Sep w0 w L) (hL : L[i]? = some (oR b s at_ hi)) (hs : s.size ≤ 140737488355328) (hn : n ≤ 32) (ha : at_ + n ≤ 8 * s.size) :
    Calls Tryz.prog 66 #[.pointer (some ⟨b, 0, none⟩), .int .i64 n] w fun e w' =>
      e = .returned (.tuple #[.int .u32 (getv s hi at_ n), .int .i64 0]) ∧ Sep w0 w' (L.set i (oR b s (at_ + n) hi)) :=
  (get_ok b s at_ n hi w hs hn ha (S.get i hL)).mono fun _ _ ⟨he, h, hx⟩ => ⟨he, S.upd i _ hL hx (Fr.refl _ _) h⟩
theorem sGetMore (i : Nat) {b : Nat} {s : ByteArray} {at_ n : Nat} {hi : Bool} (S : Sep w0 w L) (hL : L[i]? = some (oR b s at_ hi)) (hs : s.size ≤ 140737488355328) (hn : n ≤ 32) (ha : at_ ≤ 8 * s.size) (hm : 8 * s.size < at_ + n) :
    Calls Tryz.prog 66 #[.pointer (some ⟨b, 0, none⟩), .int .i64 n] w fun e w' => e = .returned (.tuple #[.int .u32 0, .int .i64 8]) ∧ Sep w0 w' L :=
  (get_more b s at_ n hi w hs hn ha hm (S.get i hL)).mono fun _ _ ⟨he, hx⟩ => ⟨he, S.quiet hx⟩
theorem sLeft (i : Nat) {b : Nat} {s : ByteArray} {at_ : Nat} {hi : Bool} (S : Sep w0 w L) (hL : L[i]? = some (oR b s at_ hi)) (hs : s.size ≤ 140737488355328) (ha : at_ ≤ 8 * s.size) :
    Calls Tryz.prog 89 #[.pointer (some ⟨b, 0, none⟩)] w fun e w' => e = .returned (.int .i64 (8 * s.size - at_)) ∧ Sep w0 w' L :=
  (left_any b s at_ hi w hs ha (S.get i hL)).mono fun _ _ ⟨he, hx⟩ => ⟨he, S.quiet hx⟩
theorem sAt (i : Nat) {b : Nat} {s : ByteArray} {at_ : Nat} {hi : Bool} (S : Sep w0 w L) (hL : L[i]? = some (oR b s at_ hi)) :
    Calls Tryz.prog 27 #[.pointer (some ⟨b, 0, none⟩)] w fun e w' => e = .returned (.int .i64 at_) ∧ Sep w0 w' L :=
  (at_any b s at_ hi w (S.get i hL)).mono fun _ _ ⟨he, hx⟩ => ⟨he, S.quiet hx⟩
theorem sAlign (i : Nat) {b : Nat} {s : ByteArray} {at_ : Nat} {hi : Bool} (S : Sep w0 w L) (hL : L[i]? = some (oR b s at_ hi)) (hs : s.size ≤ 140737488355328) (ha : at_ ≤ 8 * s.size) :
    Calls Tryz.prog 90 #[.pointer (some ⟨b, 0, none⟩)] w fun e w' => e = .returned (.int .i64 (gap at_)) ∧ Sep w0 w' (L.set i (oR b s (at_ + gap at_) hi)) :=
  (align_any b s at_ hi w hs ha (S.get i hL)).mono fun _ _ ⟨he, h, hx⟩ => ⟨he, S.upd i _ hL hx (Fr.refl _ _) h⟩
theorem sPut (i : Nat) {b : Nat} {F l : List Nat} {v n : Nat} {hi : Bool} (S : Sep w0 w L) (hL : L[i]? = some (oW b F hi l)) (hl : l.length < 2 ^ 39) (hv : v < 2 ^ 32) (hn : n ≤ 32) (hvn : v < 2 ^ n) :
    Calls Tryz.prog 39 #[.pointer (some ⟨b, 0, none⟩), .int .u32 v, .int .i64 n] w fun e w' => e = .returned (.int .i64 0) ∧ ∃ F', Sep w0 w' (L.set i (oW b F' hi (l ++ bitsOf hi v n))) :=
  (put_ok b F l v n hi w hl hv hn hvn (S.get i hL)).mono fun _ _ ⟨he, F', h, hx, hf⟩ => ⟨he, F', S.upd i (oW b F' hi (l ++ bitsOf hi v n)) hL hx hf h⟩
theorem sText (i : Nat) {b : Nat} {F l : List Nat} {hi : Bool} (S : Sep w0 w L) (hL : L[i]? = some (oW b F hi l)) :
    Calls Tryz.prog 52 #[.pointer (some ⟨b, 0, none⟩)] w fun e w' => e = .returned (.string (txt (packB hi l))) ∧ w = w' := wtext_any b F hi l w (S.get i hL)
theorem sLen (i : Nat) {b : Nat} {F l : List Nat} {hi : Bool} (S : Sep w0 w L) (hL : L[i]? = some (oW b F hi l)) :
    Calls Tryz.prog 126 #[.pointer (some ⟨b, 0, none⟩)] w fun e w' => e = .returned (.int .i64 l.length) ∧ w = w' := wlen_any b F hi l w (S.get i hL)
end

theorem pick_any (n m : Int) (w : World) (hm : 1 ≤ m) (hm2 : m ≤ 9223372036854775807) (h0 : -9223372036854775808 ≤ n) (h1 : n ≤ 9223372036854775807) :
    Calls Tryz.prog 14 #[.int .i64 n, .int .i64 m] w fun e w' => e = .returned (.int .i64 (n % m)) ∧ w = w' := by
  have e0 := Int.emod_nonneg n (show m ≠ 0 by omega)
  have e1 := Int.emod_lt_of_pos n (show 0 < m by omega)
  by_cases hn : 0 ≤ n
  · have e2 : n.tmod m = n % m := Int.tmod_eq_emod_of_nonneg hn
    have E2 := Lib.hid e2
    clear e2
    go_enter Tryz.func14, Tryz.ntmps14
    go_wp2
    go_ret
    exact ⟨rfl, rfl⟩
  · have e2 : n.tmod m = if n % m = 0 then 0 else n % m - m := by
      rw [Int.tmod_eq_emod]
      by_cases hd : m ∣ n
      · rw [if_pos (Or.inr hd), if_pos (Int.emod_eq_zero_of_dvd hd)]; have := Int.emod_eq_zero_of_dvd hd; omega
      · rw [if_neg (fun h => h.elim hn hd), if_neg (fun h => hd (Int.dvd_of_emod_eq_zero h))]; omega
    by_cases hz : n % m = 0
    · rw [if_pos hz] at e2
      have Hz := Lib.hid hz
      clear hz
      go_enter Tryz.func14, Tryz.ntmps14
      go_wp2
      go_ret
      rw [Hz.out]
      exact ⟨rfl, rfl⟩
    · rw [if_neg hz] at e2
      have h2 : n % m - m < 0 := by omega
      have h3 : n % m - m + m = n % m := by omega
      go_enter Tryz.func14, Tryz.ntmps14
      go_wp2
      go_ret
      exact ⟨rfl, rfl⟩
end Go.Proofs.YtnapnaaejignaaaGreat.Bt
