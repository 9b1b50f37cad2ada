/-
  runs: what it tells, as plain functions on lists of bytes; 'same' walked.
-/
import Derived.Test.YtiadnmhginpgfaaRnd
import Derived.Test.YtiadnmhginpgfaaSrc
import Derived.Outline
import Derived.Test.YtiadnmhginpgfaaProg
namespace Go.Proofs.Ytiadnmhginpgfaa.Rn
open Go.RowKit

/-! ### plain -/
abbrev B (s : ByteArray) : List UInt8 := s.data.toList
def c8 (b : UInt8) : Value := .int .u8 ((b.toNat : Nat) : Int)
theorem B_len (s : ByteArray) : (B s).length = s.size := Array.length_toList
theorem B_get (s : ByteArray) (i : Nat) (h : i < s.size) : (B s)[i]? = some (s[i]'h) := by
  rw [List.getElem?_eq_getElem (by rw [B_len]; exact h)]
  rfl
theorem B_ext {s t : ByteArray} (h : B s = B t) : s = t := by
  have := Array.toList_inj.1 h
  cases s; cases t; simpa using this
theorem B_drop (s : ByteArray) (n : Nat) : B (s.extract n s.size) = (B s).drop n := by
  unfold B
  rw [ByteArray.data_extract, Array.toList_extract]
  unfold List.extract
  rw [List.take_of_length_le (by rw [List.length_drop, Array.length_toList]; exact Nat.le_refl _)]
theorem B_take (s : ByteArray) (n : Nat) : B (s.extract 0 n) = (B s).take n := by
  unfold B
  rw [ByteArray.data_extract, Array.toList_extract]
  simp

/-- how many of the first byte, n being they till now -/
def sameF (l : List UInt8) (n : Nat) : Nat := if n < 128 ∧ n < l.length ∧ l[n]? = l[0]? then sameF l (n + 1) else n
termination_by 128 - n
def same (l : List UInt8) : Nat := sameF l 1
/-- how many bytes a piece of single ones has, n being they till now -/
def plainF (l : List UInt8) (n : Nat) : Nat := if n < 128 ∧ n < l.length ∧ same (l.drop n) < 2 then plainF l (n + 1) else n
termination_by 128 - n
def cut (l : List UInt8) : Nat := if 1 < same l then same l else plainF l 1

theorem sameF_stop (l : List UInt8) (n : Nat) (h : ¬(n < 128 ∧ n < l.length ∧ l[n]? = l[0]?)) : sameF l n = n := by rw [sameF, if_neg h]
theorem sameF_more (l : List UInt8) (n : Nat) (h : n < 128 ∧ n < l.length ∧ l[n]? = l[0]?) : sameF l n = sameF l (n + 1) := by rw [sameF, if_pos h]
theorem plainF_stop (l : List UInt8) (n : Nat) (h : ¬(n < 128 ∧ n < l.length ∧ same (l.drop n) < 2)) : plainF l n = n := by rw [plainF, if_neg h]
theorem plainF_more (l : List UInt8) (n : Nat) (h : n < 128 ∧ n < l.length ∧ same (l.drop n) < 2) : plainF l n = plainF l (n + 1) := by rw [plainF, if_pos h]

set_option maxRecDepth 100000 in
set_option maxHeartbeats 8000000 in
theorem same_walk (s : ByteArray) (w : World) (hs : s.size ≤ maxLen) :
    Calls Try.prog 22 #[.string s] w fun e w' => e = .returned (.int .i64 (same (B s) : Nat)) ∧ Ext [] w w' := by
  have hs : s.size ≤ 9223372036854775807 := hs
  go_enter Try.func22, Try.ntmps22
  go_wp2_with fail
  go_loopg [3] 128 (fun g i wr => ∃ n : Nat, g + n = 129 ∧ i = .int .i64 n ∧ 1 ≤ n ∧ sameF (B s) n = same (B s) ∧ Ext [] w wr)
  case atStart => exact ⟨1, by omega, rfl, by omega, rfl, Ext.refl _ _⟩
  case round =>
    obtain ⟨n, hg, rfl, hn1, hr, hx⟩ := hrel
    have HR := Lib.hid hr
    have HX := Lib.hid hx
    clear hr hx
    have hn : n ≤ 129 := by omega
    by_cases h : n < 128 ∧ n < s.size
    · obtain ⟨h1, h2⟩ := h
      have i0 : (0 : Int) ≤ (n : Int) := by omega
      have i1 : (n : Int) < (s.size : Int) := by omega
      have i2 : (0 : Int) < (s.size : Int) := by omega
      have i3 : 0 < s.size := by omega
      have m1 : decide ((n : Int) < (if (s.size : Int) < 128 then (s.size : Int) else 128)) = true := decide_eq_true (by split <;> omega)
      have b1 := B_get s n h2
      have b2 := B_get s 0 i3
      by_cases hxy : s[n]'h2 = s[0]'i3
      · have q1 : (((s[n]'h2).toNat : Int) == ((s[0]'i3).toNat : Int)) = true := by rw [hxy]; simp
        have hm := sameF_more (B s) n ⟨h1, by rw [B_len]; exact h2, by rw [b1, b2, hxy]⟩
        rw [HR.out] at hm
        have HM := Lib.hid hm
        clear hm b1 b2 hxy
        go_wp2_with fail
        go_quiet (fail)
        go_wp2_with fail
        all_goals go_roundg (128 - n)
        case measure => omega
        case measure => omega
        all_goals exact ⟨n + 1, by omega, by go_num, by omega, HM.out.symm, HX.out.drewN _⟩
      · have q1 : (((s[n]'h2).toNat : Int) == ((s[0]'i3).toNat : Int)) = false := by
          simp only [beq_eq_false_iff_ne, ne_eq]
          intro h
          exact hxy (UInt8.toNat_inj.1 (by omega))
        have hm := sameF_stop (B s) n (fun h => by rw [b1, b2] at h; exact hxy (Option.some.inj h.2.2))
        rw [HR.out] at hm
        have HM := Lib.hid hm
        clear hm b1 b2 hxy
        go_wp2_with fail
        go_quiet (fail)
        go_wp2_with fail
        all_goals go_ret
        all_goals exact ⟨by rw [HM.out]; rfl, HX.out.drewN _⟩
    · have m1 : decide ((n : Int) < (if (s.size : Int) < 128 then (s.size : Int) else 128)) = false := decide_eq_false (by split <;> omega)
      go_wp2_with fail
      go_quiet (fail)
      go_wp2_with fail
      all_goals go_ret
      all_goals exact ⟨by rw [← HR.out, sameF_stop _ _ (by rw [B_len]; omega)]; rfl, HX.out.drewN _⟩
end Go.Proofs.Ytiadnmhginpgfaa.Rn
