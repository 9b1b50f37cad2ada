/-
  The bit reader's and writer's functions as they are used: contracts for either end, whose worlds are told by 'Ext'; kit.Pick.
-/
import Derived.Test.YtchhgbhbldfofaaBitsW2
namespace Go.Proofs.Ytchhgbhbldfofaa.Bt
open Go.RowKit

theorem rnew (s : ByteArray) (hi : Bool) (w : World) : Calls Try.prog 26 #[.string s, .bool hi] w fun e w' =>
    ∃ b, e = .returned (.pointer (some ⟨b, 0, none⟩)) ∧ w.heap.size ≤ b ∧ w'.heap[b]? = some (rdr s 0 hi) ∧ Ext [] w w' :=
  (rnew_any s hi w).mono fun _ _ ⟨he, hw⟩ => ⟨w.heap.size, he, Nat.le_refl _, by rw [hw]; exact heap_alloc_at _, by rw [hw]; exact (Ext.refl _ _).alloc _⟩
theorem wnew (hi : Bool) (w : World) : Calls Try.prog 21 #[.bool hi] w fun e w' =>
    ∃ b, e = .returned (.pointer (some ⟨b, 0, none⟩)) ∧ w.heap.size ≤ b ∧ Wtr w' b [b] hi [] ∧ Ext [] w w' :=
  (wnew_any hi w).mono fun _ _ ⟨he, hw⟩ => ⟨w.heap.size, he, Nat.le_refl _, by rw [hw]; exact Wtr.new _ _, by rw [hw]; exact (Ext.refl _ _).alloc _⟩
theorem get_ok (b : Nat) (s : ByteArray) (at_ n : Nat) (hi : Bool) (w : World) (hs : s.size ≤ 140737488355328) (hn : n ≤ 32) (ha : at_ + n ≤ 8 * s.size) (hb : w.heap[b]? = some (rdr s at_ hi)) :
    Calls Try.prog 45 #[.pointer (some ⟨b, 0, none⟩), .int .i64 n] w fun e w' =>
      e = .returned (.tuple #[.int .u32 (getv s hi at_ n), .int .i64 0]) ∧ w'.heap[b]? = some (rdr s (at_ + n) hi) ∧ Ext [b] w w' := by
  cases hi
  · exact get_ok_lo b s at_ n w hs hn ha hb
  · exact get_ok_hi b s at_ n w hs hn ha hb
theorem put_ok (b : Nat) (F : List Nat) (l : List Nat) (v n : Nat) (hi : Bool) (w : World) (hl : l.length < 2 ^ 39) (hv : v < 2 ^ 32) (hn : n ≤ 32) (hvn : v < 2 ^ n) (hW : Wtr w b F hi l) :
    Calls Try.prog 44 #[.pointer (some ⟨b, 0, none⟩), .int .u32 v, .int .i64 n] w fun e w' => e = .returned (.int .i64 0) ∧ ∃ F', Wtr w' b F' hi (l ++ bitsOf hi v n) ∧ Ext F w w' ∧ Fr w F F' := by
  cases hi
  · exact wput_ok_lo b F l v n w hl hv hn hvn hW
  · exact wput_ok_hi b F l v n w hl hv hn hvn hW
theorem Wtr.lt {w : World} {b : Nat} {F : List Nat} {hi : Bool} {l : List Nat} (h : Wtr w b F hi l) : ∀ k ∈ F, k < w.heap.size := by
  obtain ⟨v, hb, hown, rfl, _⟩ := h
  intro k hk
  rcases List.mem_cons.1 hk with rfl | hk
  · exact lt_of_block hb
  · exact (hown.lt k (by simpa using hk)).2
theorem Wtr.bin {w : World} {b : Nat} {F : List Nat} {hi : Bool} {l : List Nat} (h : Wtr w b F hi l) : Bin l := by obtain ⟨_, _, _, _, _, h⟩ := h; exact h

/-- the objects, as 'Sep' has them -/
def oR (b : Nat) (s : ByteArray) (at_ : Nat) (hi : Bool) : Ob := Ob.one b (rdr s at_ hi)
def oW (b : Nat) (F : List Nat) (hi : Bool) (l : List Nat) : Ob where
  F := F
  P := fun w => Wtr w b F hi l
  ok := fun h hx hS => h.ext hx hS
  lt := fun h => h.lt
section
variable {w0 w : World} {L : List Ob}
theorem sRnew (s : ByteArray) (hi : Bool) (S : Sep w0 w L) : Calls Try.prog 26 #[.string s, .bool hi] w fun e w' =>
    ∃ b, e = .returned (.pointer (some ⟨b, 0, none⟩)) ∧ Sep w0 w' (oR b s 0 hi :: L) :=
  (rnew s hi w).mono fun _ _ ⟨b, he, hb, h, hx⟩ => ⟨b, he, S.new hx _ h (fun k hk => by rw [List.mem_singleton.1 hk]; exact hb)⟩
theorem sWnew (hi : Bool) (S : Sep w0 w L) : Calls Try.prog 21 #[.bool hi] w fun e w' =>
    ∃ b, e = .returned (.pointer (some ⟨b, 0, none⟩)) ∧ Sep w0 w' (oW b [b] hi [] :: L) :=
  (wnew hi w).mono fun _ _ ⟨b, he, hb, h, hx⟩ => ⟨b, he, S.new hx _ h (fun k hk => by rw [List.mem_singleton.1 hk]; exact hb)⟩
theorem sGet (i : Nat) {b : Nat} {s : ByteArray} {at_ n : Nat} {hi : Bool} (S : Sep w0 w L) (hL : L[i]? = some (oR b s at_ hi)) (hs : s.size ≤ 140737488355328) (hn : n ≤ 32) (ha : at_ + n ≤ 8 * s.size) :
    Calls Try.prog 45 #[.pointer (some ⟨b, 0, none⟩), .int .i64 n] w fun e w' =>
      e = .returned (.tuple #[.int .u32 (getv s hi at_ n), .int .i64 0]) ∧ Sep w0 w' (L.set i (oR b s (at_ + n) hi)) :=
  (get_ok b s at_ n hi w hs hn ha (S.get i hL)).mono fun _ _ ⟨he, h, hx⟩ => ⟨he, S.upd i _ hL hx (Fr.refl _ _) h⟩
theorem sGetMore (i : Nat) {b : Nat} {s : ByteArray} {at_ n : Nat} {hi : Bool} (S : Sep w0 w L) (hL : L[i]? = some (oR b s at_ hi)) (hs : s.size ≤ 140737488355328) (hn : n ≤ 32) (ha : at_ ≤ 8 * s.size) (hm : 8 * s.size < at_ + n) :
    Calls Try.prog 45 #[.pointer (some ⟨b, 0, none⟩), .int .i64 n] w fun e w' => e = .returned (.tuple #[.int .u32 0, .int .i64 8]) ∧ Sep w0 w' L :=
  (get_more b s at_ n hi w hs hn ha hm (S.get i hL)).mono fun _ _ ⟨he, hx⟩ => ⟨he, S.quiet hx⟩
theorem sLeft (i : Nat) {b : Nat} {s : ByteArray} {at_ : Nat} {hi : Bool} (S : Sep w0 w L) (hL : L[i]? = some (oR b s at_ hi)) (hs : s.size ≤ 140737488355328) (ha : at_ ≤ 8 * s.size) :
    Calls Try.prog 55 #[.pointer (some ⟨b, 0, none⟩)] w fun e w' => e = .returned (.int .i64 (8 * s.size - at_)) ∧ Sep w0 w' L :=
  (left_any b s at_ hi w hs ha (S.get i hL)).mono fun _ _ ⟨he, hx⟩ => ⟨he, S.quiet hx⟩
theorem sAt (i : Nat) {b : Nat} {s : ByteArray} {at_ : Nat} {hi : Bool} (S : Sep w0 w L) (hL : L[i]? = some (oR b s at_ hi)) :
    Calls Try.prog 33 #[.pointer (some ⟨b, 0, none⟩)] w fun e w' => e = .returned (.int .i64 at_) ∧ Sep w0 w' L :=
  (at_any b s at_ hi w (S.get i hL)).mono fun _ _ ⟨he, hx⟩ => ⟨he, S.quiet hx⟩
theorem sPut (i : Nat) {b : Nat} {F l : List Nat} {v n : Nat} {hi : Bool} (S : Sep w0 w L) (hL : L[i]? = some (oW b F hi l)) (hl : l.length < 2 ^ 39) (hv : v < 2 ^ 32) (hn : n ≤ 32) (hvn : v < 2 ^ n) :
    Calls Try.prog 44 #[.pointer (some ⟨b, 0, none⟩), .int .u32 v, .int .i64 n] w fun e w' => e = .returned (.int .i64 0) ∧ ∃ F', Sep w0 w' (L.set i (oW b F' hi (l ++ bitsOf hi v n))) :=
  (put_ok b F l v n hi w hl hv hn hvn (S.get i hL)).mono fun _ _ ⟨he, F', h, hx, hf⟩ => ⟨he, F', S.upd i (oW b F' hi (l ++ bitsOf hi v n)) hL hx hf h⟩
theorem sText (i : Nat) {b : Nat} {F l : List Nat} {hi : Bool} (S : Sep w0 w L) (hL : L[i]? = some (oW b F hi l)) :
    Calls Try.prog 23 #[.pointer (some ⟨b, 0, none⟩)] w fun e w' => e = .returned (.string (txt (packB hi l))) ∧ w = w' := wtext_any b F hi l w (S.get i hL)
theorem sLen (i : Nat) {b : Nat} {F l : List Nat} {hi : Bool} (S : Sep w0 w L) (hL : L[i]? = some (oW b F hi l)) :
    Calls Try.prog 35 #[.pointer (some ⟨b, 0, none⟩)] w fun e w' => e = .returned (.int .i64 l.length) ∧ w = w' := wlen_any b F hi l w (S.get i hL)
end

theorem pick_any (n m : Int) (w : World) (hm : 1 ≤ m) (hm2 : m ≤ 9223372036854775807) (h0 : -9223372036854775808 ≤ n) (h1 : n ≤ 9223372036854775807) :
    Calls Try.prog 34 #[.int .i64 n, .int .i64 m] w fun e w' => e = .returned (.int .i64 (n % m)) ∧ w = w' := by
  have e0 := Int.emod_nonneg n (show m ≠ 0 by omega)
  have e1 := Int.emod_lt_of_pos n (show 0 < m by omega)
  by_cases hn : 0 ≤ n
  · have e2 : n.tmod m = n % m := Int.tmod_eq_emod_of_nonneg hn
    have E2 := Lib.hid e2
    clear e2
    go_enter Try.func34, Try.ntmps34
    go_wp2
    go_ret
    exact ⟨rfl, rfl⟩
  · have e2 : n.tmod m = if n % m = 0 then 0 else n % m - m := by
      rw [Int.tmod_eq_emod]
      by_cases hd : m ∣ n
      · rw [if_pos (Or.inr hd), if_pos (Int.emod_eq_zero_of_dvd hd)]; have := Int.emod_eq_zero_of_dvd hd; omega
      · rw [if_neg (fun h => h.elim hn hd), if_neg (fun h => hd (Int.dvd_of_emod_eq_zero h))]; omega
    by_cases hz : n % m = 0
    · rw [if_pos hz] at e2
      have Hz := Lib.hid hz
      clear hz
      go_enter Try.func34, Try.ntmps34
      go_wp2
      go_ret
      rw [Hz.out]
      exact ⟨rfl, rfl⟩
    · rw [if_neg hz] at e2
      have h2 : n % m - m < 0 := by omega
      have h3 : n % m - m + m = n % m := by omega
      go_enter Try.func34, Try.ntmps34
      go_wp2
      go_ret
      exact ⟨rfl, rfl⟩
end Go.Proofs.Ytchhgbhbldfofaa.Bt
