/-
  What the bit reader's functions do, function by function (bits.NewReader, Get, Align, Left, At).
-/
import Derived.Test.YtchhgbhbldfofaaProg
import Derived.Test.YtchhgbhbldfofaaBitsPure
namespace Go.Proofs.Ytchhgbhbldfofaa.Bt
open Go.RowKit

def endv (hi : Bool) : Value := .iface (if hi then 106 else 107) (.agg #[])
def rdr (s : ByteArray) (at_ : Nat) (hi : Bool) : Obj := .cells #[.string s, .int .i64 at_, endv hi] 85

@[go_sem] theorem meth_shift_hi (F : Nat) (w : World) : (method (F + 1) 106 (.agg #[]) "pagemender/bits.shift").run Try.prog w = .ok (90, .agg #[]) w := by kernel_rfl
@[go_sem] theorem meth_shift_lo (F : Nat) (w : World) : (method (F + 1) 107 (.agg #[]) "pagemender/bits.shift").run Try.prog w = .ok (93, .agg #[]) w := by kernel_rfl
@[go_sem] theorem meth_join_hi (F : Nat) (w : World) : (method (F + 1) 106 (.agg #[]) "pagemender/bits.join").run Try.prog w = .ok (89, .agg #[]) w := by kernel_rfl
@[go_sem] theorem meth_join_lo (F : Nat) (w : World) : (method (F + 1) 107 (.agg #[]) "pagemender/bits.join").run Try.prog w = .ok (92, .agg #[]) w := by kernel_rfl

theorem shift_hi (n : Int) (w : World) (h0 : 0 ≤ n) (h1 : n < 8) :
    Calls Try.prog 90 #[.agg #[], .int .i64 n] w fun e w' => e = .returned (.int .i64 (7 - n)) ∧ Ext [] w w' := by
  go_enter Try.func90, Try.ntmps90
  go_wp2
  go_ret
  exact ⟨rfl, by repeat (first | exact Ext.refl _ _ | apply Ext.alloc)⟩
theorem shift_lo (n : Int) (w : World) :
    Calls Try.prog 93 #[.agg #[], .int .i64 n] w fun e w' => e = .returned (.int .i64 n) ∧ Ext [] w w' := by
  go_enter Try.func93, Try.ntmps93
  go_wp2
  go_ret
  exact ⟨rfl, by repeat (first | exact Ext.refl _ _ | apply Ext.alloc)⟩
theorem ret_u64 {a b : Int} (h : a = b) : Ending.returned (.int .u64 a) = .returned (.int .u64 b) := by rw [h]
theorem join_hi (v b : Nat) (n : Int) (w : World) (hv : v < 2 ^ 62) (hb : b ≤ 1) :
    Calls Try.prog 89 #[.agg #[], .int .u64 v, .int .i64 n, .int .u64 b] w fun e w' => e = .returned (.int .u64 ((2 * v + b : Nat) : Int)) ∧ Ext [] w w' := by
  go_enter Try.func89, Try.ntmps89
  go_wp2
  go_ret
  refine ⟨?_, by repeat (first | exact Ext.refl _ _ | apply Ext.alloc)⟩
  refine ret_u64 ?_
  have h := or_dbl v b (by omega) hb
  rw [show ((v : Int) * 2) = ((2 * v : Nat) : Int) from by omega]
  exact h
theorem join_lo (v b n : Nat) (w : World) (hn : n < 32) (hv : v < 2 ^ n) (hb : b ≤ 1) :
    Calls Try.prog 92 #[.agg #[], .int .u64 v, .int .i64 n, .int .u64 b] w fun e w' => e = .returned (.int .u64 ((v + b * 2 ^ n : Nat) : Int)) ∧ Ext [] w w' := by
  go_enter Try.func92, Try.ntmps92
  go_wp2
  go_ret
  refine ⟨?_, by repeat (first | exact Ext.refl _ _ | apply Ext.alloc)⟩
  refine ret_u64 ?_
  have h := or_shl v b n hn hv hb
  have hp : 2 ^ n ≤ 2 ^ 31 := Nat.pow_le_pow_right (by omega) (by omega)
  have hbp : b * 2 ^ n ≤ 2 ^ 31 := by have := Nat.mul_le_mul hb hp; omega
  have e : ((b : Int) * 2 ^ n) = ((b * 2 ^ n : Nat) : Int) := by push_cast; rfl
  rw [show IntKind.u64.wrap ((b : Int) * 2 ^ n) = ((b * 2 ^ n : Nat) : Int) from by rw [e, IntWalk.u64_in _ (by omega)]]
  exact h

theorem left_nil (w : World) : Calls Try.prog 55 #[.pointer none] w fun e w' => e = .returned (.int .i64 0) ∧ w = w' := by
  go_enter Try.func55, Try.ntmps55
  go_wp2
  go_ret
  exact ⟨rfl, rfl⟩
theorem at_nil (w : World) : Calls Try.prog 33 #[.pointer none] w fun e w' => e = .returned (.int .i64 0) ∧ w = w' := by
  go_enter Try.func33, Try.ntmps33
  go_wp2
  go_ret
  exact ⟨rfl, rfl⟩
theorem get_nil (n : Int) (w : World) : Calls Try.prog 45 #[.pointer none, .int .i64 n] w fun e w' => e = .returned (.tuple #[.int .u32 0, .int .i64 1]) ∧ w = w' := by
  go_enter Try.func45, Try.ntmps45
  go_wp2
  go_ret2
  exact ⟨rfl, rfl⟩

theorem left_any (b : Nat) (s : ByteArray) (at_ : Nat) (hi : Bool) (w : World) (hs : s.size ≤ 140737488355328) (ha : at_ ≤ 8 * s.size)
    (hb : w.heap[b]? = some (rdr s at_ hi)) :
    Calls Try.prog 55 #[.pointer (some ⟨b, 0, none⟩)] w fun e w' => e = .returned (.int .i64 (8 * s.size - at_)) ∧ Ext [] w w' := by
  have h0 := cellOf hb 0
  have h1 := cellOf hb 1
  go_enter Try.func55, Try.ntmps55
  go_wp2
  go_quiet (fail)
  go_wp2
  go_ret
  exact ⟨rfl, (Ext.refl _ _).drewN _⟩
theorem at_any (b : Nat) (s : ByteArray) (at_ : Nat) (hi : Bool) (w : World) (hb : w.heap[b]? = some (rdr s at_ hi)) :
    Calls Try.prog 33 #[.pointer (some ⟨b, 0, none⟩)] w fun e w' => e = .returned (.int .i64 at_) ∧ Ext [] w w' := by
  have h1 := cellOf hb 1
  go_enter Try.func33, Try.ntmps33
  go_wp2
  go_ret
  exact ⟨rfl, Ext.refl _ _⟩

set_option maxHeartbeats 2000000 in
theorem get_ok_hi (b : Nat) (s : ByteArray) (at_ n : Nat) (w : World) (hs : s.size ≤ 140737488355328) (hn : n ≤ 32) (ha : at_ + n ≤ 8 * s.size)
    (hb : w.heap[b]? = some (rdr s at_ true)) :
    Calls Try.prog 45 #[.pointer (some ⟨b, 0, none⟩), .int .i64 n] w fun e w' =>
      e = .returned (.tuple #[.int .u32 (getv s true at_ n), .int .i64 0]) ∧ w'.heap[b]? = some (rdr s (at_ + n) true) ∧ Ext [b] w w' := by
  go_enter Try.func45, Try.ntmps45
  go_wp2_with (first | (go_at_call 55; refine (left_any _ s at_ true _ hs (by omega) hb).mono ?_; rintro e w1 ⟨rfl, hx⟩))
  have hb1 := hx.keep hb (by simp)
  have hx1 : Ext [b] w w1 := hx.weak
  clear hx hb
  go_loopg [6, 25] n (fun g v i wr => ∃ k : Nat, g + k = n ∧ i = .int .i64 k ∧ v = .int .u64 (getv s true at_ k) ∧ wr.heap[b]? = some (rdr s (at_ + k) true) ∧ Ext [b] w wr)
  case atStart => exact ⟨0, by omega, rfl, rfl, hb1, hx1⟩
  case round =>
    obtain ⟨k, hk, rfl, rfl, hbr, hx⟩ := hrel
    clear hb1 hx1
    by_cases hkn : k < n
    · go_wp2_with fail
      refine wp_region_ext (by kernel_rfl) (by kernel_rfl) ?_
      have c0 : ∀ x : Ex wr, x.w.cell? ⟨b, 0, none⟩ = some (.string s) := fun x => cellOf (x.heap hbr) 0
      have c1 : ∀ x : Ex wr, x.w.cell? ⟨b, 1, none⟩ = some (.int .i64 ((at_ + k : Nat) : Int)) := fun x => cellOf (x.heap hbr) 1
      have c2 : ∀ x : Ex wr, x.w.cell? ⟨b, 2, none⟩ = some (.iface 106 (.agg #[])) := fun x => cellOf (x.heap hbr) 2
      have i0 : (0:Int) ≤ ((at_:Int) + (k:Int)) / 8 := by omega
      have i1 : ((at_:Int) + (k:Int)) / 8 < (s.size : Int) := by omega
      have b1 : ((s[(at_ + k) / 8]'(by omega)).toNat : Int) ≤ 255 := by have := (s[(at_ + k) / 8]'(by omega)).toNat_lt; omega
      repeat (go_big_quiet_step ((go_at_call 90; refine Calls.ext_of (shift_hi _ _ (by omega) (by omega)))))
      refine wpQuiet_nil ?_
      rintro _ ⟨x, rfl⟩
      have hx' : Ext [b] w x.w := hx.trans x.ext.weak
      have hbx := x.heap hbr
      clear c0 c1 c2 hx hbr
      have eb := bit_hi s (at_ + k) (by omega)
      have hbit := bit_le s true (at_ + k)
      have hgv := getv_lt s true at_ k
      have hp : 2 ^ k ≤ 2 ^ 31 := Nat.pow_le_pow_right (by omega) (by omega)
      simp only [eb]
      clear eb
      have d2 : x.w.cell? ⟨b, 2, none⟩ = some (.iface 106 (.agg #[])) := cellOf hbx 2
      go_wp2_with (first | (go_at_call 89; refine (join_hi _ _ _ _ (by omega) hbit).mono ?_; rintro e w2 ⟨rfl, hx2⟩; have hb2 := hx2.keep hbx (by simp); have hx2' : Ext [b] w w2 := hx'.trans hx2.weak; have e1 : w2.cell? ⟨b, 1, none⟩ = some (.int .i64 ((at_ + k : Nat) : Int)) := cellOf hb2 1; have g1 := freeOf hb2 1; clear hx' hbx d2 hx2))
      go_roundg (n - (k + 1))
      case measure => omega
      case rel => exact ⟨k + 1, by omega, by go_num, rfl, heap_setCell_same hb2 _, hx2'.setCell _ _ (by simp)⟩
    · have hkn' : k = n := by omega
      have hgv := getv_lt s true at_ k
      have hp : 2 ^ k ≤ 2 ^ 32 := Nat.pow_le_pow_right (by omega) (by omega)
      subst hkn'
      go_wp2_with fail
      go_ret2
      exact ⟨rfl, hbr, hx⟩

set_option maxHeartbeats 2000000 in
theorem get_ok_lo (b : Nat) (s : ByteArray) (at_ n : Nat) (w : World) (hs : s.size ≤ 140737488355328) (hn : n ≤ 32) (ha : at_ + n ≤ 8 * s.size)
    (hb : w.heap[b]? = some (rdr s at_ false)) :
    Calls Try.prog 45 #[.pointer (some ⟨b, 0, none⟩), .int .i64 n] w fun e w' =>
      e = .returned (.tuple #[.int .u32 (getv s false at_ n), .int .i64 0]) ∧ w'.heap[b]? = some (rdr s (at_ + n) false) ∧ Ext [b] w w' := by
  go_enter Try.func45, Try.ntmps45
  go_wp2_with (first | (go_at_call 55; refine (left_any _ s at_ false _ hs (by omega) hb).mono ?_; rintro e w1 ⟨rfl, hx⟩))
  have hb1 := hx.keep hb (by simp)
  have hx1 : Ext [b] w w1 := hx.weak
  clear hx hb
  go_loopg [6, 25] n (fun g v i wr => ∃ k : Nat, g + k = n ∧ i = .int .i64 k ∧ v = .int .u64 (getv s false at_ k) ∧ wr.heap[b]? = some (rdr s (at_ + k) false) ∧ Ext [b] w wr)
  case atStart => exact ⟨0, by omega, rfl, rfl, hb1, hx1⟩
  case round =>
    obtain ⟨k, hk, rfl, rfl, hbr, hx⟩ := hrel
    clear hb1 hx1
    by_cases hkn : k < n
    · go_wp2_with fail
      refine wp_region_ext (by kernel_rfl) (by kernel_rfl) ?_
      have c0 : ∀ x : Ex wr, x.w.cell? ⟨b, 0, none⟩ = some (.string s) := fun x => cellOf (x.heap hbr) 0
      have c1 : ∀ x : Ex wr, x.w.cell? ⟨b, 1, none⟩ = some (.int .i64 ((at_ + k : Nat) : Int)) := fun x => cellOf (x.heap hbr) 1
      have c2 : ∀ x : Ex wr, x.w.cell? ⟨b, 2, none⟩ = some (.iface 107 (.agg #[])) := fun x => cellOf (x.heap hbr) 2
      have i0 : (0:Int) ≤ ((at_:Int) + (k:Int)) / 8 := by omega
      have i1 : ((at_:Int) + (k:Int)) / 8 < (s.size : Int) := by omega
      have b1 : ((s[(at_ + k) / 8]'(by omega)).toNat : Int) ≤ 255 := by have := (s[(at_ + k) / 8]'(by omega)).toNat_lt; omega
      repeat (go_big_quiet_step ((go_at_call 93; refine Calls.ext_of (shift_lo _ _))))
      refine wpQuiet_nil ?_
      rintro _ ⟨x, rfl⟩
      have hx' : Ext [b] w x.w := hx.trans x.ext.weak
      have hbx := x.heap hbr
      clear c0 c1 c2 hx hbr
      have eb := bit_lo s (at_ + k) (by omega)
      have hbit := bit_le s false (at_ + k)
      have hgv := getv_lt s false at_ k
      have hp : 2 ^ k ≤ 2 ^ 31 := Nat.pow_le_pow_right (by omega) (by omega)
      simp only [eb]
      clear eb
      have d2 : x.w.cell? ⟨b, 2, none⟩ = some (.iface 107 (.agg #[])) := cellOf hbx 2
      go_wp2_with (first | (go_at_call 92; refine (join_lo _ _ _ _ (by omega) hgv hbit).mono ?_; rintro e w2 ⟨rfl, hx2⟩; have hb2 := hx2.keep hbx (by simp); have hx2' : Ext [b] w w2 := hx'.trans hx2.weak; have e1 : w2.cell? ⟨b, 1, none⟩ = some (.int .i64 ((at_ + k : Nat) : Int)) := cellOf hb2 1; have g1 := freeOf hb2 1; clear hx' hbx d2 hx2))
      go_roundg (n - (k + 1))
      case measure => omega
      case rel => exact ⟨k + 1, by omega, by go_num, rfl, heap_setCell_same hb2 _, hx2'.setCell _ _ (by simp)⟩
    · have hkn' : k = n := by omega
      have hgv := getv_lt s false at_ k
      have hp : 2 ^ k ≤ 2 ^ 32 := Nat.pow_le_pow_right (by omega) (by omega)
      subst hkn'
      go_wp2_with fail
      go_ret2
      exact ⟨rfl, hbr, hx⟩

theorem get_arg (b : Nat) (n : Int) (w : World) (hn : n < 0 ∨ 32 < n) :
    Calls Try.prog 45 #[.pointer (some ⟨b, 0, none⟩), .int .i64 n] w fun e w' => e = .returned (.tuple #[.int .u32 0, .int .i64 2]) ∧ w = w' := by
  rcases hn with hn | hn
  · go_enter Try.func45, Try.ntmps45
    go_wp2_with fail
    go_ret2
    exact ⟨rfl, rfl⟩
  · have hn' : ¬ n < 0 := by omega
    go_enter Try.func45, Try.ntmps45
    go_wp2_with fail
    go_ret2
    exact ⟨rfl, rfl⟩
theorem get_more (b : Nat) (s : ByteArray) (at_ n : Nat) (hi : Bool) (w : World) (hs : s.size ≤ 140737488355328) (hn : n ≤ 32) (ha : at_ ≤ 8 * s.size) (hm : 8 * s.size < at_ + n)
    (hb : w.heap[b]? = some (rdr s at_ hi)) :
    Calls Try.prog 45 #[.pointer (some ⟨b, 0, none⟩), .int .i64 n] w fun e w' => e = .returned (.tuple #[.int .u32 0, .int .i64 8]) ∧ Ext [] w w' := by
  go_enter Try.func45, Try.ntmps45
  go_wp2_with (first | (go_at_call 55; refine (left_any _ s at_ hi _ hs (by omega) hb).mono ?_; rintro e w1 ⟨rfl, hx⟩))
  go_ret2
  exact ⟨rfl, hx⟩
theorem from_any (hi : Bool) (w : World) : Calls Try.prog 43 #[.bool hi] w fun e w' => e = .returned (endv hi) ∧ w = w' := by
  cases hi
  · go_enter Try.func43, Try.ntmps43
    go_wp2_with fail
    go_ret
    exact ⟨rfl, rfl⟩
  · go_enter Try.func43, Try.ntmps43
    go_wp2_with fail
    go_ret
    exact ⟨rfl, rfl⟩
theorem rnew_any (s : ByteArray) (hi : Bool) (w : World) : Calls Try.prog 26 #[.string s, .bool hi] w fun e w' =>
    e = .returned (.pointer (some ⟨w.heap.size, 0, none⟩)) ∧ w' = w.alloc (rdr s 0 hi) := by
  go_enter Try.func26, Try.ntmps26
  go_wp2_with (first | (go_at_call 43; refine (from_any _ _).mono ?_; rintro e w1 ⟨rfl, rfl⟩; simp only [endv]))
  all_goals
    go_ret
    exact ⟨rfl, rfl⟩
end Go.Proofs.Ytchhgbhbldfofaa.Bt
