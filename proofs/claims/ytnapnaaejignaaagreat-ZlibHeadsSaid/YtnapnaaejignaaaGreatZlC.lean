/-
  zlib: More, Adler, framed, number walked.
-/
import Derived.Test.YtnapnaaejignaaaGreatZlB
import Derived.Test.YtnapnaaejignaaaGreatDgC
import Derived.Laws.BitsAllLaws
namespace Go.Proofs.YtnapnaaejignaaaGreat.De
open Go.RowKit Bt Hu If Mt

theorem B_nil {s : ByteArray} (h : s.size = 0) : B s = [] := List.eq_nil_of_length_eq_zero (by rw [B_len]; exact h)
theorem sumA_drop (s : ByteArray) (i : Nat) (h : i < s.size) (a b : Nat) : sumA a b ((B s).drop i) = sumA (a + (byteF s i).toNat) (b + (a + (byteF s i).toNat)) ((B s).drop (i + 1)) := by
  have e : (B s).drop i = byteF s i :: (B s).drop (i + 1) := by
    rw [List.drop_eq_getElem_cons (by rw [B_len]; exact h)]
    congr 1
    unfold byteF
    rw [List.getD_eq_getElem?_getD, List.getElem?_eq_getElem (by rw [B_len]; exact h)]
    rfl
  rw [e]
  rfl
theorem and16 (n : Nat) (h : n < 4294967296) : bits BinOp.and IntKind.u32 (n : Int) 65535 = ((n % 65536 : Nat) : Int) := by
  have e := u32_and_nat n 65535 h (by omega)
  rw [show n &&& 65535 = n % 65536 from Nat.and_two_pow_sub_one_eq_mod n 16] at e
  exact e
theorem or16 (b a : Nat) (hb : b < 65536) (ha : a < 65536) : bits BinOp.or IntKind.u64 ((b : Int) * 65536) (a : Int) = ((b * 65536 + a : Nat) : Int) := by
  have e := u64_or_nat (b * 65536) a (by omega) (by omega)
  rw [show b * 65536 ||| a = b * 65536 + a by rw [Nat.mul_comm b 65536]; exact (Nat.two_pow_add_eq_or_of_lt (i := 16) ha b).symm] at e
  rw [← e]
  congr 1
theorem byteF_is (s : ByteArray) (i : Nat) (h : i < s.size) : byteF s i = s[i]'h := by
  unfold byteF
  rw [List.getD_eq_getElem?_getD, List.getElem?_eq_getElem (by rw [B_len]; exact h)]
  rfl
set_option maxRecDepth 100000 in
set_option maxHeartbeats 8000000 in
theorem more_walk (n : Nat) (s : ByteArray) (w : World) (hn : n < 4294967296) (hs : s.size ≤ 4096) :
    Calls Tryz.prog 12 #[.int .u32 n, .string s] w fun e w' => e = .returned (.int .u32 (moreN n (B s) : Nat)) ∧ Ext [] w w' := by
  obtain ⟨R, hR⟩ : ∃ R, moreN n (B s) = R := ⟨_, rfl⟩
  rw [hR]
  have hA := and16 n hn
  obtain ⟨a0, ha0⟩ : ∃ a0, n % 65536 = a0 := ⟨_, rfl⟩
  obtain ⟨b0, hb0⟩ : ∃ b0, n / 65536 = b0 := ⟨_, rfl⟩
  have a0l : a0 < 65536 := by omega
  have b0l : b0 < 65536 := by omega
  have hB : (n : Int) / 65536 = (b0 : Int) := by omega
  unfold moreN at hR
  rw [ha0] at hA hR
  rw [hb0] at hR
  have HR := Lib.hid (⟨hR, ha0, hb0⟩ : _ ∧ _ ∧ _)
  clear hR ha0 hb0
  go_enter Tryz.func12, Tryz.ntmps12
  go_wp2_with fail
  by_cases h0 : s.size = 0
  · have hOr := or16 b0 a0 b0l a0l
    obtain ⟨z, hz⟩ : ∃ z, b0 * 65536 + a0 = z := ⟨_, rfl⟩
    have hzl : z < 4294967296 := by omega
    rw [hz] at hOr
    have hzR : z = R := by
      have h := HR.out
      rw [B_nil h0, if_pos rfl] at h
      omega
    subst hzR
    have h0z : (s.size : Int) = 0 := by omega
    go_loopg [1, 5, 6] 1 (fun g sv av bv wr => sv = .string s ∧ av = .int .u64 a0 ∧ bv = .int .u64 b0 ∧ wr = w)
    case atStart => exact ⟨rfl, rfl, rfl, rfl⟩
    case round =>
      obtain ⟨rfl, rfl, rfl, rfl⟩ := hrel
      go_wp2_with fail
      go_ret
      exact ⟨rfl, Ext.refl _ _⟩
  · have hne : B s ≠ [] := fun h => h0 (by rw [← B_len, h]; rfl)
    have hR := HR.out.1
    rw [if_neg hne] at hR
    clear HR
    obtain ⟨SM, hSM⟩ : ∃ SM, sumA a0 b0 (B s) = SM := ⟨_, rfl⟩
    rw [hSM] at hR
    obtain ⟨A1, hA1⟩ : ∃ A1, SM.1 % 65521 = A1 := ⟨_, rfl⟩
    obtain ⟨B1, hB1⟩ : ∃ B1, SM.2 % 65521 = B1 := ⟨_, rfl⟩
    rw [hA1, hB1] at hR
    have A1l : A1 < 65536 := by omega
    have B1l : B1 < 65536 := by omega
    have hRl : R < 4294967296 := by omega
    have hOr := or16 B1 A1 B1l A1l
    rw [hR] at hOr
    have HSM := Lib.hid (⟨hSM, hA1, hB1⟩ : _ ∧ _ ∧ _)
    clear hSM hA1 hB1 hR hne
    have hs1 : (s.size : Int) ≤ 4096 := by omega
    have hs0 : (0 : Int) < (s.size : Int) := by omega
    go_loopg [1, 5, 6] 2 (fun g sv av bv wr => ((g = 2 ∧ sv = .string s ∧ av = .int .u64 a0 ∧ bv = .int .u64 b0) ∨ (g = 1 ∧ ∃ t : ByteArray, t.size = 0 ∧ sv = .string t ∧ av = .int .u64 A1 ∧ bv = .int .u64 B1)) ∧ Ext [] w wr)
    case atStart => exact ⟨.inl ⟨rfl, rfl, rfl, rfl⟩, Ext.refl _ _⟩
    case round =>
      obtain ⟨⟨rfl, rfl, rfl, rfl⟩ | ⟨rfl, t, ht, rfl, rfl, rfl⟩, hx⟩ := hrel
      · have HX := Lib.hid hx
        clear hx
        go_wp2_with fail
        rw [Int.min_eq_left hs1]
        go_loopg [5, 6, 8] s.size (fun g av bv iv w2 => ∃ i a b : Nat, g + i = s.size ∧ iv = .int .i64 i ∧ av = .int .u64 a ∧ bv = .int .u64 b ∧ sumA a b ((B s).drop i) = SM ∧ a ≤ 65536 + 255 * i ∧ b ≤ 65536 + 2000000 * i ∧ w2 = wr)
        case atStart => exact ⟨0, a0, b0, by omega, rfl, rfl, rfl, HSM.out.1, by omega, by omega, rfl⟩
        case round =>
          obtain ⟨i, a, b, hgi, rfl, rfl, rfl, hsum, ha, hb, rfl⟩ := hrel
          by_cases hlt : i < s.size
          · obtain ⟨g, rfl⟩ : ∃ g, gk = g + 1 := ⟨gk - 1, by omega⟩
            rw [sumA_drop s i hlt, byteF_is s i hlt] at hsum
            have HSUM := Lib.hid hsum
            have hltz : (i : Int) < (s.size : Int) := by omega
            have hx8 := (s[i]'hlt).toNat_lt
            clear hsum
            go_wp2_with fail
            go_roundg g
            case measure => omega
            case rel => exact ⟨i + 1, a + (s[i]'hlt).toNat, b + (a + (s[i]'hlt).toNat), by omega, by go_num, by go_num, by go_num, HSUM.out, by omega, by omega, rfl⟩
          · obtain rfl : i = s.size := by omega
            rw [List.drop_of_length_le (by rw [B_len]; exact Nat.le_refl _)] at hsum
            have h1 := HSM.out.2.1
            have h2 := HSM.out.2.2
            rw [← hsum] at h1 h2
            have h1 : a % 65521 = A1 := h1
            have h2 : b % 65521 = B1 := h2
            have h1z : (a : Int) % 65521 = (A1 : Int) := by omega
            have h2z : (b : Int) % 65521 = (B1 : Int) := by omega
            clear hsum h1 h2
            go_wp2_with fail
            go_region
            go_wp2_with fail
            go_roundg 1
            case measure => omega
            case rel => exact ⟨.inr ⟨rfl, _, by simp, rfl, by rw [h1z], by rw [h2z]⟩, HX.out.drew⟩
      · have HX := Lib.hid hx
        have htz : (t.size : Int) = 0 := by omega
        clear hx
        go_wp2_with fail
        go_ret
        exact ⟨rfl, HX.out⟩
set_option maxRecDepth 100000 in
set_option maxHeartbeats 4000000 in
theorem adler_walk (s : ByteArray) (w : World) (hs : s.size ≤ 4096) :
    Calls Tryz.prog 13 #[.string s] w fun e w' => e = .returned (.int .u32 (adlN (B s) : Nat)) ∧ Ext [] w w' := by
  go_enter Tryz.func13, Tryz.ntmps13
  go_wp2_with fail
  refine (more_walk 1 s w (by omega) hs).mono ?_
  rintro e w1 ⟨rfl, hx⟩
  have HX := Lib.hid hx
  clear hx
  go_wp2_with fail
  go_ret
  exact ⟨rfl, HX.out⟩
theorem byteAt_is (s : ByteArray) (i : Nat) (h : i < s.size) : byteAt s i = (s[i]'h).toNat := by
  unfold byteAt
  rw [List.getD_eq_getElem?_getD, List.getElem?_eq_getElem (by simpa using h)]
  rfl
def numF (s : ByteArray) : Nat → Nat
  | 0 => 0
  | k + 1 => numF s k * 256 + byteAt s k
theorem numF_lt (s : ByteArray) : ∀ k, numF s k < 256 ^ k
  | 0 => Nat.zero_lt_one
  | k + 1 => by
    have h1 := numF_lt s k
    have h2 := If.byteAt_lt s k
    rw [numF, Nat.pow_succ]
    omega
theorem numF_4 (s : ByteArray) : numF s 4 = num4 s := by
  unfold num4
  simp only [numF]
  omega
theorem or8 (a b : Nat) (ha : a < 16777216) (hb : b < 256) : bits BinOp.or IntKind.u32 ((a : Int) * 256) (b : Int) = ((a * 256 + b : Nat) : Int) := by
  have e := u32_or_nat (a * 256) b (by omega) (by omega)
  rw [show a * 256 ||| b = a * 256 + b by rw [Nat.mul_comm a 256]; exact (Nat.two_pow_add_eq_or_of_lt (i := 8) hb a).symm] at e
  rw [← e]
  congr 1
set_option maxRecDepth 100000 in
set_option maxHeartbeats 4000000 in
theorem number_walk (s : ByteArray) (w : World) (hs : 4 ≤ s.size) :
    Calls Tryz.prog 20 #[.string s] w fun e w' => e = .returned (.int .u32 (num4 s : Nat)) ∧ Ext [] w w' := by
  rw [← numF_4]
  obtain ⟨R, hR⟩ : ∃ R, numF s 4 = R := ⟨_, rfl⟩
  rw [hR]
  have HR := Lib.hid hR
  clear hR
  go_enter Tryz.func20, Tryz.ntmps20
  go_wp2_with fail
  go_loopg [3, 5] 4 (fun g nv iv wr => ∃ k : Nat, g + k = 4 ∧ iv = .int .i64 k ∧ nv = .int .u32 (numF s k : Nat) ∧ wr = w)
  case atStart => exact ⟨0, by omega, rfl, rfl, rfl⟩
  case round =>
    obtain ⟨k, hgk, rfl, rfl, rfl⟩ := hrel
    by_cases hlt : k < 4
    · obtain ⟨g, rfl⟩ : ∃ g, gk = g + 1 := ⟨gk - 1, by omega⟩
      have hkz : (k : Int) < 4 := by omega
      have hks : k < s.size := by omega
      have hksz : (k : Int) < (s.size : Int) := by omega
      have hlt3 : numF s k < 16777216 := by
        have h1 := numF_lt s k
        have h2 : 256 ^ k ≤ 256 ^ 3 := Nat.pow_le_pow_right (by omega) (by omega)
        omega
      have hb8 := If.byteAt_lt s k
      have hor := or8 (numF s k) (byteAt s k) hlt3 hb8
      have hnx : numF s k * 256 + byteAt s k = numF s (k + 1) := rfl
      rw [hnx] at hor
      have hnl : numF s (k + 1) < 4294967296 := by rw [← hnx]; omega
      obtain ⟨a, ha⟩ : ∃ a, numF s k = a := ⟨_, rfl⟩
      obtain ⟨c, hc⟩ : ∃ c, numF s (k + 1) = c := ⟨_, rfl⟩
      rw [ha] at hor hlt3 ⊢
      rw [hc] at hor hnl
      rw [byteAt_is s k hks] at hor hb8
      have HC := Lib.hid hc
      clear ha hc hnx
      go_wp2_with fail
      go_roundg g
      case measure => omega
      case rel => exact ⟨k + 1, by omega, by go_num, by rw [HC.out], rfl⟩
    · obtain rfl : k = 4 := by omega
      rw [HR.out]
      go_wp2_with fail
      go_ret
      exact ⟨rfl, Ext.refl _ _⟩
end Go.Proofs.YtnapnaaejignaaaGreat.De
