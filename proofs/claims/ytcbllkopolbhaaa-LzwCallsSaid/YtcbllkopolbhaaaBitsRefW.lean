/-
  What the reference's bit writer does, function by function (pagemenderref06: Put, Align, Text).
-/
import Derived.Test.YtcbllkopolbhaaaBitsRef
namespace Go.Proofs.Ytcbllkopolbhaaa.Bt
open Go.RowKit

def rfw (v : Value) : Obj := .cells #[v] 66
/-- block b is a reference's writer of the bits L; it owns the blocks F -/
def RfW (w : World) (b : Nat) (F : List Nat) (L : List Nat) : Prop :=
  ∃ v, w.heap[b]? = some (rfw v) ∧ w.ownsRow 0 5 1 v L.length (L.map b8) ∧ F = b :: v.ownBlock.toList ∧ v.ownBlock ≠ some b
def oRw (b : Nat) (F : List Nat) (L : List Nat) : Ob where
  F := F
  P := fun w => RfW w b F L
  ok := fun h hx hS => by
    obtain ⟨v, hb, hown, rfl, hne⟩ := h
    exact ⟨v, hx.keep hb (hS b (by simp)), ownsRow_ext hown hx (fun g hg => hS g (by simp [hg])), rfl, hne⟩
  lt := fun h => by
    obtain ⟨v, hb, hown, rfl, hne⟩ := h
    intro k hk
    rcases List.mem_cons.1 hk with rfl | hk
    · exact lt_of_block hb
    · exact (hown.lt k (by simpa using hk)).2
theorem RfW.pushed {w w1 : World} {b g cap : Nat} {v : Value} {L : List Nat} {O : Obj} {x : Nat} (hb : w.heap[b]? = some (rfw v)) (hne : v.ownBlock ≠ some b)
    (hown : w1.ownsRow 0 5 1 (.slice (some ⟨g, 0, none⟩) (L.length + 1) cap) (L.length + 1) (L.map b8 ++ [.int .u8 (x : Int)])) (hgrow : (w.alloc O).grownBy w1 v.ownBlock) (hat : v.ownBlock = some g ∨ g = w.heap.size + 1) :
    RfW (w1.setCell ⟨b, 0, none⟩ (.slice (some ⟨g, 0, none⟩) (L.length + 1) cap)) b [b, g] (L ++ [x]) ∧
    Ext (b :: v.ownBlock.toList) w (w1.setCell ⟨b, 0, none⟩ (.slice (some ⟨g, 0, none⟩) (L.length + 1) cap)) ∧ Fr w (b :: v.ownBlock.toList) [b, g] := by
  obtain ⟨p1, p2, p3, p4, p5⟩ := push_field hb hne hown hgrow hat 0
  refine ⟨⟨_, p1, ?_, rfl, fun e => p4 (by simpa [Value.ownBlock] using e)⟩, p3, p5⟩
  rw [List.length_append, List.map_append]
  exact p2

theorem rfput_arg (b : Nat) (v n : Int) (hi : Bool) (w : World) (h0 : 0 ≤ v) (hv : v < 4294967296) (hn : n < 0 ∨ 32 < n ∨ (0 ≤ n ∧ n ≤ 32 ∧ (2 : Int) ^ n.toNat ≤ v)) :
    Calls Try.prog 32 #[.pointer (some ⟨b, 0, none⟩), .int .u32 v, .int .i64 n, .bool hi] w fun e w' => e = .returned (.int .i64 2) ∧ w = w' := by
  rcases hn with hn | hn | ⟨hn0, hn1, hn⟩
  · go_enter Try.func32, Try.ntmps32
    go_wp2_with fail
    go_ret
    exact ⟨rfl, rfl⟩
  · have hn' : ¬ n < 0 := by omega
    go_enter Try.func32, Try.ntmps32
    go_wp2_with fail
    go_ret
    exact ⟨rfl, rfl⟩
  · obtain ⟨m, rfl⟩ : ∃ m : Nat, n = m := ⟨n.toNat, by omega⟩
    have hm32 : m < 32 := by
      rcases Nat.lt_or_ge m 32 with h | h
      · exact h
      · have : m = 32 := by omega
        subst this
        simp at hn
        omega
    rw [Int.toNat_natCast] at hn
    have hp : 2 ^ m ≤ 2 ^ 31 := Nat.pow_le_pow_right (by omega) (by omega)
    have e : ((2 ^ m : Nat) : Int) = (2 : Int) ^ m := by push_cast; rfl
    have p1 : (2 : Int) ^ m ≤ 2147483648 := by omega
    have p0 : 0 ≤ (2 : Int) ^ m := Int.le_of_lt (Int.pow_pos (by decide))
    clear e hp
    go_enter Try.func32, Try.ntmps32
    go_wp2_with fail
    go_ret
    exact ⟨rfl, rfl⟩

set_option maxHeartbeats 4000000 in
theorem rfput_ok_hi_lt (b : Nat) (F L : List Nat) (v n : Nat) (w : World) (hL : L.length < 2 ^ 39) (hv : v < 2 ^ 32) (hn : n < 32) (hvn : v < 2 ^ n) (h : RfW w b F L) :
    Calls Try.prog 32 #[.pointer (some ⟨b, 0, none⟩), .int .u32 v, .int .i64 n, .bool true] w fun e w' => e = .returned (.int .i64 0) ∧ ∃ F', RfW w' b F' (L ++ bitsOf true v n) ∧ Ext F w w' ∧ Fr w F F' := by
  obtain ⟨i0, hi, hz0, hz1, hz2⟩ := info_parts infoByte
  have H0 := Lib.hid h
  clear h
  have e : ((2 ^ n : Nat) : Int) = (2 : Int) ^ n := by push_cast; rfl
  have p0 : (v : Int) < (2 : Int) ^ n := by omega
  have hp : 2 ^ n ≤ 2 ^ 31 := Nat.pow_le_pow_right (by omega) (by omega)
  have p1 : (2 : Int) ^ n ≤ 2147483648 := by omega
  clear e hp hvn
  go_enter Try.func32, Try.ntmps32
  go_wp2_with fail
  go_loopg [9] n (fun q i wr => ∃ k : Nat, q + k = n ∧ i = .int .i64 k ∧ ∃ F', RfW wr b F' (L ++ (bitsOf true v n).take k) ∧ Ext F w wr ∧ Fr w F F')
  case atStart => exact ⟨0, by omega, rfl, F, by simpa using H0.out, Ext.refl _ _, Fr.refl _ _⟩
  case round =>
    clear H0
    obtain ⟨k, hk, rfl, F', hW, hx, hf⟩ := hrel
    by_cases hkn : k < n
    · obtain ⟨v0, hb, hown, hF, hne⟩ := hW
      have hll : (L ++ (bitsOf true v n).take k).length = L.length + k := by rw [List.length_append, List.length_take, bitsOf_length]; omega
      have c0 := cellOf hb 0
      have f0 := freeOf hb 0
      have hsz := lt_of_block hb
      have hbit := u32_and_one (v / 2 ^ (n - 1 - k)) (Nat.lt_of_le_of_lt (Nat.div_le_self _ _) hv)
      have h2 : ((v / 2 ^ (n - 1 - k) : Nat) : Int) = (v : Int) / 2 ^ (n - 1 - k) := by push_cast; rfl
      rw [h2] at hbit
      have hb2 : v / 2 ^ (n - 1 - k) % 2 < 2 := by omega
      generalize hn0 : (L ++ (bitsOf true v n).take k).length = n0 at hll hown
      have hn1 : n0 < 2 ^ 40 := by omega
      have HH := Lib.hid (And.intro hF (And.intro hx (And.intro hf (And.intro hn0 (And.intro hll hb)))))
      clear hll hn0 hF hx hf h2
      go_wp2_with (first | (at_builtin; refine wpList_append_lies _ rfl _ _ 36 rfl 0 5 i0 _ 1 1 Try.underlying36 hi hz0 hz1 hz2 rfl (by decide) v0 n0 _ rfl (hown.alloc _) ⟨wr.heap.size, 0, none⟩ 1 1 [.int .u8 ((v / 2 ^ (n - 1 - k) % 2 : Nat) : Int)] rfl rfl (cell_one_new _ _ _) (by simp [Value.oneCell']) (by decide) (by unfold maxLen; omega) (by omega) (by omega) (wr.heap.size + 1) (by simp) ?_; intro g cap2 w1 hown1 hgrow hat hlt; have b1 : w1.heap[b]? = some (rfw v0) := grown_keep hgrow (heap_alloc_old _ hb) hne; have k0 := cellOf b1 0; have k1 := freeOf b1 0; clear c0 f0))
      go_roundg (n - (k + 1))
      case measure => omega
      case rel =>
        obtain ⟨hF', hx, hf, hn0, hll, hb⟩ := HH.out
        subst hn0
        subst hF'
        have P := RfW.pushed (x := v / 2 ^ (n - 1 - k) % 2) hb hne hown1 hgrow hat
        refine ⟨k + 1, by omega, by go_num, [b, g], ?_, ext_fr hx P.2.1 hf, hf.trans P.2.2 hx.size⟩
        have e : (bitsOf true v n).take (k + 1) = (bitsOf true v n).take k ++ [v / 2 ^ (n - 1 - k) % 2] := by
          rw [List.take_succ_eq_append_getElem (by rw [bitsOf_length]; exact hkn)]
          simp [bitsOf]
        rw [e, ← List.append_assoc]
        exact P.1
    · have e : k = n := by omega
      have e2 : (bitsOf true v n).take k = bitsOf true v n := List.take_of_length_le (by rw [bitsOf_length]; omega)
      have H := Lib.hid (And.intro hW (And.intro hx (And.intro hf e2)))
      have hkn' : n ≤ k := by omega
      clear hW hx hf e e2 hkn
      go_wp2_with fail
      go_ret
      obtain ⟨hWr, hx, hf, e2⟩ := H.out
      rw [e2] at hWr
      exact ⟨rfl, F', hWr, hx, hf⟩

set_option maxHeartbeats 4000000 in
theorem rfput_ok_hi_32 (b : Nat) (F L : List Nat) (v n : Nat) (w : World) (hL : L.length < 2 ^ 39) (hv : v < 2 ^ 32) (hn : n = 32) (h : RfW w b F L) :
    Calls Try.prog 32 #[.pointer (some ⟨b, 0, none⟩), .int .u32 v, .int .i64 n, .bool true] w fun e w' => e = .returned (.int .i64 0) ∧ ∃ F', RfW w' b F' (L ++ bitsOf true v n) ∧ Ext F w w' ∧ Fr w F F' := by
  have hn31 : ¬ n < 32 := by omega
  have hn33 : n ≤ 32 := by omega
  have Hn := Lib.hid hn
  clear hn
  obtain ⟨i0, hi, hz0, hz1, hz2⟩ := info_parts infoByte
  have H0 := Lib.hid h
  clear h

  go_enter Try.func32, Try.ntmps32
  go_wp2_with fail
  go_loopg [9] n (fun q i wr => ∃ k : Nat, q + k = n ∧ i = .int .i64 k ∧ ∃ F', RfW wr b F' (L ++ (bitsOf true v n).take k) ∧ Ext F w wr ∧ Fr w F F')
  case atStart => exact ⟨0, by omega, rfl, F, by simpa using H0.out, Ext.refl _ _, Fr.refl _ _⟩
  case round =>
    clear H0
    obtain ⟨k, hk, rfl, F', hW, hx, hf⟩ := hrel
    by_cases hkn : k < n
    · obtain ⟨v0, hb, hown, hF, hne⟩ := hW
      have hll : (L ++ (bitsOf true v n).take k).length = L.length + k := by rw [List.length_append, List.length_take, bitsOf_length]; omega
      have c0 := cellOf hb 0
      have f0 := freeOf hb 0
      have hsz := lt_of_block hb
      have hbit := u32_and_one (v / 2 ^ (n - 1 - k)) (Nat.lt_of_le_of_lt (Nat.div_le_self _ _) hv)
      have h2 : ((v / 2 ^ (n - 1 - k) : Nat) : Int) = (v : Int) / 2 ^ (n - 1 - k) := by push_cast; rfl
      rw [h2] at hbit
      have hb2 : v / 2 ^ (n - 1 - k) % 2 < 2 := by omega
      generalize hn0 : (L ++ (bitsOf true v n).take k).length = n0 at hll hown
      have hn1 : n0 < 2 ^ 40 := by omega
      have HH := Lib.hid (And.intro hF (And.intro hx (And.intro hf (And.intro hn0 (And.intro hll hb)))))
      clear hll hn0 hF hx hf h2
      go_wp2_with (first | (at_builtin; refine wpList_append_lies _ rfl _ _ 36 rfl 0 5 i0 _ 1 1 Try.underlying36 hi hz0 hz1 hz2 rfl (by decide) v0 n0 _ rfl (hown.alloc _) ⟨wr.heap.size, 0, none⟩ 1 1 [.int .u8 ((v / 2 ^ (n - 1 - k) % 2 : Nat) : Int)] rfl rfl (cell_one_new _ _ _) (by simp [Value.oneCell']) (by decide) (by unfold maxLen; omega) (by omega) (by omega) (wr.heap.size + 1) (by simp) ?_; intro g cap2 w1 hown1 hgrow hat hlt; have b1 : w1.heap[b]? = some (rfw v0) := grown_keep hgrow (heap_alloc_old _ hb) hne; have k0 := cellOf b1 0; have k1 := freeOf b1 0; clear c0 f0))
      go_roundg (n - (k + 1))
      case measure => omega
      case rel =>
        obtain ⟨hF', hx, hf, hn0, hll, hb⟩ := HH.out
        subst hn0
        subst hF'
        have P := RfW.pushed (x := v / 2 ^ (n - 1 - k) % 2) hb hne hown1 hgrow hat
        refine ⟨k + 1, by omega, by go_num, [b, g], ?_, ext_fr hx P.2.1 hf, hf.trans P.2.2 hx.size⟩
        have e : (bitsOf true v n).take (k + 1) = (bitsOf true v n).take k ++ [v / 2 ^ (n - 1 - k) % 2] := by
          rw [List.take_succ_eq_append_getElem (by rw [bitsOf_length]; exact hkn)]
          simp [bitsOf]
        rw [e, ← List.append_assoc]
        exact P.1
    · have e : k = n := by omega
      have e2 : (bitsOf true v n).take k = bitsOf true v n := List.take_of_length_le (by rw [bitsOf_length]; omega)
      have H := Lib.hid (And.intro hW (And.intro hx (And.intro hf e2)))
      have hkn' : n ≤ k := by omega
      clear hW hx hf e e2 hkn
      go_wp2_with fail
      go_ret
      obtain ⟨hWr, hx, hf, e2⟩ := H.out
      rw [e2] at hWr
      exact ⟨rfl, F', hWr, hx, hf⟩

set_option maxHeartbeats 4000000 in
theorem rfput_ok_lo_lt (b : Nat) (F L : List Nat) (v n : Nat) (w : World) (hL : L.length < 2 ^ 39) (hv : v < 2 ^ 32) (hn : n < 32) (hvn : v < 2 ^ n) (h : RfW w b F L) :
    Calls Try.prog 32 #[.pointer (some ⟨b, 0, none⟩), .int .u32 v, .int .i64 n, .bool false] w fun e w' => e = .returned (.int .i64 0) ∧ ∃ F', RfW w' b F' (L ++ bitsOf false v n) ∧ Ext F w w' ∧ Fr w F F' := by
  obtain ⟨i0, hi, hz0, hz1, hz2⟩ := info_parts infoByte
  have H0 := Lib.hid h
  clear h
  have e : ((2 ^ n : Nat) : Int) = (2 : Int) ^ n := by push_cast; rfl
  have p0 : (v : Int) < (2 : Int) ^ n := by omega
  have hp : 2 ^ n ≤ 2 ^ 31 := Nat.pow_le_pow_right (by omega) (by omega)
  have p1 : (2 : Int) ^ n ≤ 2147483648 := by omega
  clear e hp hvn
  go_enter Try.func32, Try.ntmps32
  go_wp2_with fail
  go_loopg [9] n (fun q i wr => ∃ k : Nat, q + k = n ∧ i = .int .i64 k ∧ ∃ F', RfW wr b F' (L ++ (bitsOf false v n).take k) ∧ Ext F w wr ∧ Fr w F F')
  case atStart => exact ⟨0, by omega, rfl, F, by simpa using H0.out, Ext.refl _ _, Fr.refl _ _⟩
  case round =>
    clear H0
    obtain ⟨k, hk, rfl, F', hW, hx, hf⟩ := hrel
    by_cases hkn : k < n
    · obtain ⟨v0, hb, hown, hF, hne⟩ := hW
      have hll : (L ++ (bitsOf false v n).take k).length = L.length + k := by rw [List.length_append, List.length_take, bitsOf_length]; omega
      have c0 := cellOf hb 0
      have f0 := freeOf hb 0
      have hsz := lt_of_block hb
      have hbit := u32_and_one (v / 2 ^ k) (Nat.lt_of_le_of_lt (Nat.div_le_self _ _) hv)
      have h2 : ((v / 2 ^ k : Nat) : Int) = (v : Int) / 2 ^ k := by push_cast; rfl
      rw [h2] at hbit
      have hb2 : v / 2 ^ k % 2 < 2 := by omega
      generalize hn0 : (L ++ (bitsOf false v n).take k).length = n0 at hll hown
      have hn1 : n0 < 2 ^ 40 := by omega
      have HH := Lib.hid (And.intro hF (And.intro hx (And.intro hf (And.intro hn0 (And.intro hll hb)))))
      clear hll hn0 hF hx hf h2
      go_wp2_with (first | (at_builtin; refine wpList_append_lies _ rfl _ _ 36 rfl 0 5 i0 _ 1 1 Try.underlying36 hi hz0 hz1 hz2 rfl (by decide) v0 n0 _ rfl (hown.alloc _) ⟨wr.heap.size, 0, none⟩ 1 1 [.int .u8 ((v / 2 ^ k % 2 : Nat) : Int)] rfl rfl (cell_one_new _ _ _) (by simp [Value.oneCell']) (by decide) (by unfold maxLen; omega) (by omega) (by omega) (wr.heap.size + 1) (by simp) ?_; intro g cap2 w1 hown1 hgrow hat hlt; have b1 : w1.heap[b]? = some (rfw v0) := grown_keep hgrow (heap_alloc_old _ hb) hne; have k0 := cellOf b1 0; have k1 := freeOf b1 0; clear c0 f0))
      go_roundg (n - (k + 1))
      case measure => omega
      case rel =>
        obtain ⟨hF', hx, hf, hn0, hll, hb⟩ := HH.out
        subst hn0
        subst hF'
        have P := RfW.pushed (x := v / 2 ^ k % 2) hb hne hown1 hgrow hat
        refine ⟨k + 1, by omega, by go_num, [b, g], ?_, ext_fr hx P.2.1 hf, hf.trans P.2.2 hx.size⟩
        have e : (bitsOf false v n).take (k + 1) = (bitsOf false v n).take k ++ [v / 2 ^ k % 2] := by
          rw [List.take_succ_eq_append_getElem (by rw [bitsOf_length]; exact hkn)]
          simp [bitsOf]
        rw [e, ← List.append_assoc]
        exact P.1
    · have e : k = n := by omega
      have e2 : (bitsOf false v n).take k = bitsOf false v n := List.take_of_length_le (by rw [bitsOf_length]; omega)
      have H := Lib.hid (And.intro hW (And.intro hx (And.intro hf e2)))
      have hkn' : n ≤ k := by omega
      clear hW hx hf e e2 hkn
      go_wp2_with fail
      go_ret
      obtain ⟨hWr, hx, hf, e2⟩ := H.out
      rw [e2] at hWr
      exact ⟨rfl, F', hWr, hx, hf⟩

set_option maxHeartbeats 4000000 in
theorem rfput_ok_lo_32 (b : Nat) (F L : List Nat) (v n : Nat) (w : World) (hL : L.length < 2 ^ 39) (hv : v < 2 ^ 32) (hn : n = 32) (h : RfW w b F L) :
    Calls Try.prog 32 #[.pointer (some ⟨b, 0, none⟩), .int .u32 v, .int .i64 n, .bool false] w fun e w' => e = .returned (.int .i64 0) ∧ ∃ F', RfW w' b F' (L ++ bitsOf false v n) ∧ Ext F w w' ∧ Fr w F F' := by
  have hn31 : ¬ n < 32 := by omega
  have hn33 : n ≤ 32 := by omega
  have Hn := Lib.hid hn
  clear hn
  obtain ⟨i0, hi, hz0, hz1, hz2⟩ := info_parts infoByte
  have H0 := Lib.hid h
  clear h

  go_enter Try.func32, Try.ntmps32
  go_wp2_with fail
  go_loopg [9] n (fun q i wr => ∃ k : Nat, q + k = n ∧ i = .int .i64 k ∧ ∃ F', RfW wr b F' (L ++ (bitsOf false v n).take k) ∧ Ext F w wr ∧ Fr w F F')
  case atStart => exact ⟨0, by omega, rfl, F, by simpa using H0.out, Ext.refl _ _, Fr.refl _ _⟩
  case round =>
    clear H0
    obtain ⟨k, hk, rfl, F', hW, hx, hf⟩ := hrel
    by_cases hkn : k < n
    · obtain ⟨v0, hb, hown, hF, hne⟩ := hW
      have hll : (L ++ (bitsOf false v n).take k).length = L.length + k := by rw [List.length_append, List.length_take, bitsOf_length]; omega
      have c0 := cellOf hb 0
      have f0 := freeOf hb 0
      have hsz := lt_of_block hb
      have hbit := u32_and_one (v / 2 ^ k) (Nat.lt_of_le_of_lt (Nat.div_le_self _ _) hv)
      have h2 : ((v / 2 ^ k : Nat) : Int) = (v : Int) / 2 ^ k := by push_cast; rfl
      rw [h2] at hbit
      have hb2 : v / 2 ^ k % 2 < 2 := by omega
      generalize hn0 : (L ++ (bitsOf false v n).take k).length = n0 at hll hown
      have hn1 : n0 < 2 ^ 40 := by omega
      have HH := Lib.hid (And.intro hF (And.intro hx (And.intro hf (And.intro hn0 (And.intro hll hb)))))
      clear hll hn0 hF hx hf h2
      go_wp2_with (first | (at_builtin; refine wpList_append_lies _ rfl _ _ 36 rfl 0 5 i0 _ 1 1 Try.underlying36 hi hz0 hz1 hz2 rfl (by decide) v0 n0 _ rfl (hown.alloc _) ⟨wr.heap.size, 0, none⟩ 1 1 [.int .u8 ((v / 2 ^ k % 2 : Nat) : Int)] rfl rfl (cell_one_new _ _ _) (by simp [Value.oneCell']) (by decide) (by unfold maxLen; omega) (by omega) (by omega) (wr.heap.size + 1) (by simp) ?_; intro g cap2 w1 hown1 hgrow hat hlt; have b1 : w1.heap[b]? = some (rfw v0) := grown_keep hgrow (heap_alloc_old _ hb) hne; have k0 := cellOf b1 0; have k1 := freeOf b1 0; clear c0 f0))
      go_roundg (n - (k + 1))
      case measure => omega
      case rel =>
        obtain ⟨hF', hx, hf, hn0, hll, hb⟩ := HH.out
        subst hn0
        subst hF'
        have P := RfW.pushed (x := v / 2 ^ k % 2) hb hne hown1 hgrow hat
        refine ⟨k + 1, by omega, by go_num, [b, g], ?_, ext_fr hx P.2.1 hf, hf.trans P.2.2 hx.size⟩
        have e : (bitsOf false v n).take (k + 1) = (bitsOf false v n).take k ++ [v / 2 ^ k % 2] := by
          rw [List.take_succ_eq_append_getElem (by rw [bitsOf_length]; exact hkn)]
          simp [bitsOf]
        rw [e, ← List.append_assoc]
        exact P.1
    · have e : k = n := by omega
      have e2 : (bitsOf false v n).take k = bitsOf false v n := List.take_of_length_le (by rw [bitsOf_length]; omega)
      have H := Lib.hid (And.intro hW (And.intro hx (And.intro hf e2)))
      have hkn' : n ≤ k := by omega
      clear hW hx hf e e2 hkn
      go_wp2_with fail
      go_ret
      obtain ⟨hWr, hx, hf, e2⟩ := H.out
      rw [e2] at hWr
      exact ⟨rfl, F', hWr, hx, hf⟩

theorem rfput_ok (b : Nat) (F L : List Nat) (v n : Nat) (hi : Bool) (w : World) (hL : L.length < 2 ^ 39) (hv : v < 2 ^ 32) (hn : n ≤ 32) (hvn : v < 2 ^ n) (h : RfW w b F L) :
    Calls Try.prog 32 #[.pointer (some ⟨b, 0, none⟩), .int .u32 v, .int .i64 n, .bool hi] w fun e w' => e = .returned (.int .i64 0) ∧ ∃ F', RfW w' b F' (L ++ bitsOf hi v n) ∧ Ext F w w' ∧ Fr w F F' := by
  rcases Nat.lt_or_ge n 32 with h32 | h32
  · cases hi
    · exact rfput_ok_lo_lt b F L v n w hL hv h32 hvn h
    · exact rfput_ok_hi_lt b F L v n w hL hv h32 hvn h
  · cases hi
    · exact rfput_ok_lo_32 b F L v n w hL hv (by omega) h
    · exact rfput_ok_hi_32 b F L v n w hL hv (by omega) h

end Go.Proofs.Ytcbllkopolbhaaa.Bt
