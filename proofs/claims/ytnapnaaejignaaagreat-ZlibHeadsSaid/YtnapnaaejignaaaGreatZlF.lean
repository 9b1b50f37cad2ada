/-
  zlib: framed walked.
-/
import Derived.Test.YtnapnaaejignaaaGreatZlC
namespace Go.Proofs.YtnapnaaejignaaaGreat.De
open Go.RowKit Bt Hu If Mt

theorem u8_and15 (x : Nat) (h : x < 256) : bits BinOp.and IntKind.u8 (x : Int) 15 = ((x % 16 : Nat) : Int) := by
  have e := u8_and_nat x 15 h (by omega)
  rw [show x &&& 15 = x % 16 from Nat.and_two_pow_sub_one_eq_mod x 4] at e
  exact e
theorem and32_is : ∀ x, x < 256 → x &&& 32 = x / 32 % 2 * 32 := by decide +kernel
theorem u8_and32 (x : Nat) (h : x < 256) : bits BinOp.and IntKind.u8 (x : Int) 32 = ((x / 32 % 2 * 32 : Nat) : Int) := by
  have e := u8_and_nat x 32 h (by omega)
  rw [and32_is x h] at e
  exact e
theorem i64_or8 (x y : Nat) (hx : x < 256) (hy : y < 256) : bits .or .i64 ((x : Int) * 256) (y : Int) = ((256 * x + y : Nat) : Int) := by
  have key : (BitVec.ofInt 64 ((x : Int) * 256) ||| BitVec.ofInt 64 (y : Int)).toNat = 2 ^ 8 * x + y := by
    rw [BitVec.toNat_or, BitVec.toNat_ofInt, BitVec.toNat_ofInt, Nat.two_pow_add_eq_or_of_lt (by omega : y < 2 ^ 8)]
    congr 1 <;> omega
  show IntKind.i64.wrap ((BitVec.ofInt 64 ((x : Int) * 256) ||| BitVec.ofInt 64 (y : Int)).toNat : Nat) = _
  rw [key, IntKind.wrap_i64]
  omega
theorem str_index (s : ByteArray) (k : Nat) (h : k < s.size) (w : World) : (Instr.index 9 (.string s) (.int .i64 (k : Int))).run Tryz.prog w = .ok (.int .u8 ((byteAt s k : Nat) : Int)) w := by
  rw [byteAt_is s k h]
  simp [go_sem, h]
theorem fr_is (s : ByteArray) : frB s = decide (2 ≤ s.size ∧ byteAt s 0 % 16 = 8 ∧ byteAt s 0 / 16 ≤ 7 ∧ (256 * byteAt s 0 + byteAt s 1) % 31 = 0 ∧ byteAt s 1 / 32 % 2 = 0) := rfl
set_option maxRecDepth 100000 in
set_option maxHeartbeats 8000000 in
theorem framed_walk (s : ByteArray) (w : World) :
    Calls Tryz.prog 18 #[.string s] w fun e w' => e = .returned (.bool (frB s)) ∧ Ext [] w w' := by
  obtain ⟨R, hR⟩ : ∃ R, frB s = R := ⟨_, rfl⟩
  rw [hR]
  rw [fr_is] at hR
  by_cases h2 : 2 ≤ s.size
  · have h2z : (2 : Int) ≤ (s.size : Int) := by omega
    have i0 : (0 : Int) < (s.size : Int) := by omega
    have i1 : (1 : Int) < (s.size : Int) := by omega
    have e0 : ∀ w, (Instr.index 9 (.string s) (.int .i64 0)).run Tryz.prog w = .ok (.int .u8 ((byteAt s 0 : Nat) : Int)) w := fun w => str_index s 0 (by omega) w
    have e1 : ∀ w, (Instr.index 9 (.string s) (.int .i64 1)).run Tryz.prog w = .ok (.int .u8 ((byteAt s 1 : Nat) : Int)) w := fun w => str_index s 1 (by omega) w
    obtain ⟨x0, hx0⟩ : ∃ x0, byteAt s 0 = x0 := ⟨_, rfl⟩
    obtain ⟨x1, hx1⟩ : ∃ x1, byteAt s 1 = x1 := ⟨_, rfl⟩
    have x0l : x0 < 256 := by rw [← hx0]; exact If.byteAt_lt s 0
    have x1l : x1 < 256 := by rw [← hx1]; exact If.byteAt_lt s 1
    simp only [hx0] at e0 hR
    simp only [hx1] at e1 hR
    have b1 := u8_and15 x0 x0l
    have b2 := i64_or8 x0 x1 x0l x1l
    have b3 := u8_and32 x1 x1l
    have hR := hR
    by_cases k1 : x0 % 16 = 8
    · rw [k1] at b1
      by_cases k2 : x0 / 16 ≤ 7
      · have k2z : (x0 : Int) / 16 ≤ 7 := by omega
        obtain ⟨v, hv⟩ : ∃ v, 256 * x0 + x1 = v := ⟨_, rfl⟩
        rw [hv] at b2 hR
        have vl : v < 65536 := by omega
        by_cases k3 : v % 31 = 0
        · have k3z : (v : Int) % 31 = 0 := by omega
          by_cases k4 : x1 / 32 % 2 = 0
          · rw [k4] at b3
            obtain rfl : true = R := by rw [← hR]; exact (decide_eq_true ⟨h2, k1, k2, k3, k4⟩).symm
            clear hR k4 k3 k2 k1
            clear hx0 hx1
            go_enter Tryz.func18, Tryz.ntmps18
            go_wp2_with fail
            refine wp_region_ext (by kernel_rfl) (by kernel_rfl) ?_
            repeat (go_big_quiet_step (fail))
            refine wpQuiet_nil ?_
            rintro _ ⟨y, rfl⟩
            have HZ := Lib.hid y.ext
            go_wp2_with fail
            go_ret
            exact ⟨rfl, HZ.out⟩
          · obtain ⟨u, hu⟩ : ∃ u, x1 / 32 % 2 * 32 = u := ⟨_, rfl⟩
            rw [hu] at b3
            have ul : ((u : Int) == 0) = false := beq_eq_false_iff_ne.2 (by omega)
            have ul2 : ¬ u = 0 := by omega
            obtain rfl : false = R := by rw [← hR]; exact (decide_eq_false (fun h => k4 h.2.2.2.2)).symm
            clear hR k4 k3 k2 k1 hu
            clear hx0 hx1
            go_enter Tryz.func18, Tryz.ntmps18
            go_wp2_with fail
            refine wp_region_ext (by kernel_rfl) (by kernel_rfl) ?_
            repeat (go_big_quiet_step (fail))
            refine wpQuiet_nil ?_
            rintro _ ⟨y, rfl⟩
            have HZ := Lib.hid y.ext
            go_wp2_with fail
            go_ret
            exact ⟨rfl, HZ.out⟩
        · have k3z : ¬ (v : Int) % 31 = 0 := by omega
          have k3b : ((v : Int) % 31 == 0) = false := beq_eq_false_iff_ne.2 k3z
          obtain rfl : false = R := by rw [← hR]; exact (decide_eq_false (fun h => k3 h.2.2.2.1)).symm
          clear hR k3 k2 k1
          clear hx0 hx1
          go_enter Tryz.func18, Tryz.ntmps18
          go_wp2_with fail
          refine wp_region_ext (by kernel_rfl) (by kernel_rfl) ?_
          repeat (go_big_quiet_step (fail))
          refine wpQuiet_nil ?_
          rintro _ ⟨y, rfl⟩
          have HZ := Lib.hid y.ext
          go_wp2_with fail
          go_ret
          exact ⟨rfl, HZ.out⟩
      · have k2z : decide ((x0 : Int) / 16 ≤ 7) = false := decide_eq_false (by omega)
        obtain rfl : false = R := by rw [← hR]; exact (decide_eq_false (fun h => k2 h.2.2.1)).symm
        clear hR k2 k1
        clear hx0 hx1
        go_enter Tryz.func18, Tryz.ntmps18
        go_wp2_with fail
        refine wp_region_ext (by kernel_rfl) (by kernel_rfl) ?_
        repeat (go_big_quiet_step (fail))
        refine wpQuiet_nil ?_
        rintro _ ⟨y, rfl⟩
        have HZ := Lib.hid y.ext
        go_wp2_with fail
        go_ret
        exact ⟨rfl, HZ.out⟩
    · obtain ⟨u, hu⟩ : ∃ u, x0 % 16 = u := ⟨_, rfl⟩
      rw [hu] at b1 k1
      have ul : ((u : Int) == 8) = false := beq_eq_false_iff_ne.2 (by omega)
      obtain rfl : false = R := by rw [← hR]; exact (decide_eq_false (fun h => k1 (hu ▸ h.2.1))).symm
      clear hR hu
      clear hx0 hx1
      go_enter Tryz.func18, Tryz.ntmps18
      go_wp2_with fail
      refine wp_region_ext (by kernel_rfl) (by kernel_rfl) ?_
      repeat (go_big_quiet_step (fail))
      refine wpQuiet_nil ?_
      rintro _ ⟨y, rfl⟩
      have HZ := Lib.hid y.ext
      go_wp2_with fail
      go_ret
      exact ⟨rfl, HZ.out⟩
  · have h2z : decide ((2 : Int) ≤ (s.size : Int)) = false := decide_eq_false (by omega)
    obtain rfl : false = R := by rw [← hR]; exact (decide_eq_false (fun h => h2 h.1)).symm
    clear hR
    go_enter Tryz.func18, Tryz.ntmps18
    go_wp2_with fail
    refine wp_region_ext (by kernel_rfl) (by kernel_rfl) ?_
    repeat (go_big_quiet_step (fail))
    refine wpQuiet_nil ?_
    rintro _ ⟨y, rfl⟩
    have HZ := Lib.hid y.ext
    go_wp2_with fail
    go_ret
    exact ⟨rfl, HZ.out⟩
end Go.Proofs.YtnapnaaejignaaaGreat.De
