/-
  PredictBack walked.
-/
import Derived.Test.YtoiegmdlbcbgoaaPrY
namespace Go.Proofs.Ytoiegmdlbcbgoaa.Pr
open Go.RowKit

set_option maxRecDepth 100000 in
set_option maxHeartbeats 8000000 in
theorem backLaw_walk (s : ByteArray) (v : Value) (w : World) (_hs : s.size ≤ maxLen) (hv : ∃ p c b k : Int, v = gV p c b k ∧ (-9223372036854775808 ≤ p ∧ p ≤ 9223372036854775807) ∧ (-9223372036854775808 ≤ c ∧ c ≤ 9223372036854775807) ∧ (-9223372036854775808 ≤ b ∧ b ≤ 9223372036854775807) ∧ (-9223372036854775808 ≤ k ∧ k ≤ 9223372036854775807)) :
    Calls Try.prog 6 #[.string s, v] w fun e w' => e = .returned (.bool true) ∧ Ext [] w w' := by
  obtain ⟨p0, c, b, k, rfl, _, _, _, _⟩ := hv
  have hs' : s.size ≤ 9223372036854775807 := _hs
  unfold gV
  go_enter Try.func6, Try.ntmps6
  go_wp2_with fail
  obtain ⟨W0, hW0, hg0, hx0⟩ : ∃ W, w.alloc (.cells #[.int .i64 p0, .int .i64 c, .int .i64 b, .int .i64 k] 23) = W ∧ W.heap[w.heap.size]? = some (.cells #[.int .i64 p0, .int .i64 c, .int .i64 b, .int .i64 k] 23 (0, 0)) ∧ Ext [] w W := ⟨_, rfl, heap_alloc_at _, (Ext.refl _ _).alloc _⟩
  rw [hW0]
  obtain ⟨gb, hgb⟩ : ∃ gb, w.heap.size = gb := ⟨_, rfl⟩
  rw [hgb] at hg0 ⊢
  have Sp := (Sep.start w).new hx0 (Ob.one gb (.cells #[.int .i64 p0, .int .i64 c, .int .i64 b, .int .i64 k] 23 (0, 0))) hg0 (fun q hq => by rw [List.mem_singleton.1 hq]; omega)
  have HSp := Lib.hid Sp
  clear hW0 hg0 hx0 Sp hgb
  refine (lives15 _).mono ?_
  rintro e w2 ⟨rfl, hx1⟩
  have Sp := HSp.out.quiet hx1
  have HSp := Lib.hid Sp
  clear Sp hx1
  by_cases h1 : s.size ≤ 1500
  · have k1 : decide ((1500 : Int) < (s.size : Int)) = false := decide_eq_false (by omega)
    by_cases hok : gOk p0 c b k
    · obtain ⟨p, rfl⟩ : ∃ p : Nat, p0 = (p : Int) := ⟨p0.toNat, by have := hok.1; unfold predOk at this; omega⟩
      have hcw := check_walk p c b k
      unfold gV at hcw
      have hg : w2.heap[gb]? = some (.cells #[.int .i64 (p : Int), .int .i64 c, .int .i64 b, .int .i64 k] 23 (0, 0)) := HSp.out.get 0 rfl
      have e0 : w2.cell? ⟨gb, 0, none⟩ = some (.int .i64 (p : Int)) := cellOf hg 0
      have e1 : w2.cell? ⟨gb, 1, none⟩ = some (.int .i64 c) := cellOf hg 1
      have e2 : w2.cell? ⟨gb, 2, none⟩ = some (.int .i64 b) := cellOf hg 2
      have e3 : w2.cell? ⟨gb, 3, none⟩ = some (.int .i64 k) := cellOf hg 3
      clear hg
      rw [show gE p c b k = 0 from if_pos hok] at hcw
      have HCW := Lib.hid hcw
      have hnb := rowN_bounds hok
      have hbd := gOk_bounds hok
      have hrw := fun w => row_walk p c b k w hok
      unfold gV at hrw
      obtain ⟨n, hn⟩ : ∃ n, rowN c b k = n := ⟨_, rfl⟩
      rw [hn] at hrw hnb
      obtain ⟨n1, n2⟩ := hnb
      obtain ⟨rest, hrest⟩ : ∃ rest : Nat, 8 * (n : Int) - c * b * k = (rest : Int) := ⟨(8 * (n : Int) - c * b * k).toNat, by unfold rowN at hn; omega⟩
      have hr8 : rest < 8 := by unfold rowN at hn; omega
      obtain ⟨cb, hcb⟩ : ∃ cb, c * b = cb := ⟨_, rfl⟩
      obtain ⟨cbk, hcbk⟩ : ∃ cbk, cb * k = cbk := ⟨_, rfl⟩
      obtain ⟨_, _, _, _, _, _, cb1, cb2, ck1, ck2⟩ := hbd
      rw [hcb] at cb1 cb2 ck1 ck2
      rw [hcbk] at ck1 ck2
      obtain ⟨rows, hrows⟩ : ∃ rows, s.size / n = rows := ⟨_, rfl⟩
      obtain ⟨N, hN⟩ : ∃ N, rows * n = N := ⟨_, rfl⟩
      have hNs : N ≤ s.size := by rw [← hN, ← hrows]; exact Nat.div_mul_le_self _ _
      have hrn : rows ≤ N := by rw [← hN]; exact Nat.le_mul_of_pos_right _ (by omega)
      have hNi : (rows : Int) * (n : Int) = (N : Int) := by rw [← hN]; push_cast; rfl
      have hri : (s.size : Int) / (n : Int) = (rows : Int) := by rw [← hrows]; exact (Int.natCast_ediv _ _).symm ▸ rfl
      have hri2 : (N : Int) / (n : Int) = (rows : Int) := by rw [← hNi]; exact Int.mul_ediv_cancel _ (by omega)
      have hz1 : (s.extract 0 N).size = N := by simp; omega
      obtain ⟨s1, hs1⟩ : ∃ s1, s.extract 0 N = s1 := ⟨_, rfl⟩
      rw [hs1] at hz1
      obtain ⟨P, A, hput, hget, hAz, hPz, hAF⟩ := back_ex s1 p c b k hok n rows rest hn (by rw [hz1, hN]) (by omega) hrest
      unfold gV at hput hget
      rw [hz1] at hAz hPz hAF
      rw [hcb, hcbk] at hrest
      have HRW := Lib.hid hrw
      have HPUT := Lib.hid hput
      have HGET := Lib.hid hget
      have HAF := Lib.hid hAF
      have HPZ := Lib.hid hPz
      have k2 : decide ((n : Int) < 1) = false := decide_eq_false (by omega)
      have b1 : (0 : Int) ≤ (N : Int) := by omega
      have b2 : (N : Int) ≤ (s.size : Int) := by omega
      clear hcw hrw hok hn hput hget hAF hPz hrows hN
      go_wp2_with fail
      refine (HCW.out _).mono ?_
      clear e0 e1 e2 e3
      rintro e w3 ⟨rfl, hx1⟩
      have Sp := HSp.out.quiet hx1
      have hg : w3.heap[gb]? = some (.cells #[.int .i64 (p : Int), .int .i64 c, .int .i64 b, .int .i64 k] 23 (0, 0)) := Sp.get 0 rfl
      have e0 : w3.cell? ⟨gb, 0, none⟩ = some (.int .i64 (p : Int)) := cellOf hg 0
      have e1 : w3.cell? ⟨gb, 1, none⟩ = some (.int .i64 c) := cellOf hg 1
      have e2 : w3.cell? ⟨gb, 2, none⟩ = some (.int .i64 b) := cellOf hg 2
      have e3 : w3.cell? ⟨gb, 3, none⟩ = some (.int .i64 k) := cellOf hg 3
      have HSp := Lib.hid Sp
      clear Sp hx1 hg
      go_wp2_with fail
      refine (HRW.out _).mono ?_
      clear e0 e1 e2 e3
      rintro e w4 ⟨rfl, hx1⟩
      have Sp := HSp.out.quiet hx1
      have hg : w4.heap[gb]? = some (.cells #[.int .i64 (p : Int), .int .i64 c, .int .i64 b, .int .i64 k] 23 (0, 0)) := Sp.get 0 rfl
      have e0 : w4.cell? ⟨gb, 0, none⟩ = some (.int .i64 (p : Int)) := cellOf hg 0
      have e1 : w4.cell? ⟨gb, 1, none⟩ = some (.int .i64 c) := cellOf hg 1
      have e2 : w4.cell? ⟨gb, 2, none⟩ = some (.int .i64 b) := cellOf hg 2
      have e3 : w4.cell? ⟨gb, 3, none⟩ = some (.int .i64 k) := cellOf hg 3
      have HSp := Lib.hid Sp
      clear Sp hx1 hg
      go_wp2_with fail
      refine (HPUT.out _).mono ?_
      clear e0 e1 e2 e3
      rintro e w5 ⟨rfl, hx1⟩
      have Sp := HSp.out.quiet hx1
      have hg : w5.heap[gb]? = some (.cells #[.int .i64 (p : Int), .int .i64 c, .int .i64 b, .int .i64 k] 23 (0, 0)) := Sp.get 0 rfl
      have e0 : w5.cell? ⟨gb, 0, none⟩ = some (.int .i64 (p : Int)) := cellOf hg 0
      have e1 : w5.cell? ⟨gb, 1, none⟩ = some (.int .i64 c) := cellOf hg 1
      have e2 : w5.cell? ⟨gb, 2, none⟩ = some (.int .i64 b) := cellOf hg 2
      have e3 : w5.cell? ⟨gb, 3, none⟩ = some (.int .i64 k) := cellOf hg 3
      have HSp := Lib.hid Sp
      clear Sp hx1 hg
      go_wp2_with fail
      refine (HGET.out _).mono ?_
      clear e0 e1 e2 e3
      rintro e w6 ⟨rfl, hx1⟩
      have Sp := HSp.out.quiet hx1
      have hg : w6.heap[gb]? = some (.cells #[.int .i64 (p : Int), .int .i64 c, .int .i64 b, .int .i64 k] 23 (0, 0)) := Sp.get 0 rfl
      have e0 : w6.cell? ⟨gb, 0, none⟩ = some (.int .i64 (p : Int)) := cellOf hg 0
      have e1 : w6.cell? ⟨gb, 1, none⟩ = some (.int .i64 c) := cellOf hg 1
      have e2 : w6.cell? ⟨gb, 2, none⟩ = some (.int .i64 b) := cellOf hg 2
      have e3 : w6.cell? ⟨gb, 3, none⟩ = some (.int .i64 k) := cellOf hg 3
      have HSp := Lib.hid Sp
      clear Sp hx1 hg
      have k3 : decide ((N : Int) = (N : Int)) = true := decide_eq_true rfl
      go_wp2_with fail
      go_loopg [11, 12] N (fun gg iv _ wr => ∃ i : Nat, gg + i = N ∧ iv = .int .i64 i ∧ Sep w wr [Ob.one gb (.cells #[.int .i64 (p : Int), .int .i64 c, .int .i64 b, .int .i64 k] 23 (0, 0))])
      case atStart => exact ⟨0, by omega, rfl, HSp.out⟩
      case round =>
        clear HSp e0 e1 e2 e3
        obtain ⟨i, hgi, rfl, Sp⟩ := hrel
        have hg : wr.heap[gb]? = some (.cells #[.int .i64 (p : Int), .int .i64 c, .int .i64 b, .int .i64 k] 23 (0, 0)) := Sp.get 0 rfl
        have e0 : wr.cell? ⟨gb, 0, none⟩ = some (.int .i64 (p : Int)) := cellOf hg 0
        have HSp := Lib.hid Sp
        clear Sp hg
        by_cases hin : i < N
        · obtain ⟨r, hr⟩ : ∃ r, i % n = r := ⟨_, rfl⟩
          have hrn' : r < n := by rw [← hr]; exact Nat.mod_lt _ (by omega)
          have hri' : (i : Int) % (n : Int) = (r : Int) := by rw [← hr]; rfl
          have hrt : Int.tmod (i : Int) (n : Int) = (r : Int) := by rw [Int.tmod_eq_emod_of_nonneg (by omega)]; exact hri'
          have hiA : i < A.size := by omega
          have hi1 : i < s1.size := by omega
          have hbyte := HAF.out i hin
          rw [hr, ← bget A i hiA, ← bget s1 i hi1] at hbyte
          have o1 : (i : Int) < (N : Int) := by omega
          obtain ⟨x, hx⟩ : ∃ x, s1[i]'hi1 = x := ⟨_, rfl⟩
          obtain ⟨y, hy⟩ : ∃ y, A[i]'hiA = y := ⟨_, rfl⟩
          rw [hx, hy] at hbyte
          have x8 := x.toNat_lt
          have y8 := y.toNat_lt
          clear hr
          by_cases hm : p = 2 ∧ r = n - 1
          · obtain ⟨rfl, hm2⟩ := hm
            rw [if_pos ⟨rfl, hm2⟩] at hbyte
            have m1 : ((r : Int) == (n : Int) - 1) = true := by rw [beq_iff_eq]; omega
            obtain ⟨M, hM⟩ : ∃ M, 255 * 2 ^ rest % 256 = M := ⟨_, rfl⟩
            have hMi : (255 : Int) * 2 ^ rest % 256 = (M : Int) := by rw [← hM]; push_cast; rfl
            have hand := mask_and rest hr8 x.toNat x8
            rw [hM, ← hbyte] at hand
            have hbit : bits .and .u8 ((x.toNat : Nat) : Int) (M : Int) = ((y.toNat : Nat) : Int) := by rw [u8_and_nat _ _ x8 (by omega), hand]
            clear hand
            clear hbyte hM
            go_wp2_with fail
            go_region
            go_wp2_with fail
            go_roundg (N - (i + 1))
            case measure => omega
            case rel => exact ⟨i + 1, by omega, by go_num, HSp.out.quiet ((Ext.refl _ _).drew)⟩
          · rw [if_neg hm] at hbyte
            have hbit : bits .and .u8 ((x.toNat : Nat) : Int) 255 = ((y.toNat : Nat) : Int) := by
              have h := u8_and_nat x.toNat 255 x8 (by omega)
              rw [show x.toNat &&& 255 = x.toNat from by rw [show 255 = 2 ^ 8 - 1 from rfl, Nat.and_two_pow_sub_one_eq_mod]; exact Nat.mod_eq_of_lt x8] at h
              rw [hbyte]
              exact h
            clear hbyte
            by_cases hp2 : p = 2
            · subst hp2
              have m1 : ((r : Int) == (n : Int) - 1) = false := beq_eq_false_iff_ne.2 (by omega)
              go_wp2_with fail
              go_region
              go_wp2_with fail
              go_roundg (N - (i + 1))
              case measure => omega
              case rel => exact ⟨i + 1, by omega, by go_num, HSp.out.quiet ((Ext.refl _ _).drew)⟩
            · have m0 : ((p : Int) == 2) = false := beq_eq_false_iff_ne.2 (by omega)
              go_wp2_with fail
              go_region
              go_wp2_with fail
              go_roundg (N - (i + 1))
              case measure => omega
              case rel => exact ⟨i + 1, by omega, by go_num, HSp.out.quiet ((Ext.refl _ _).drew)⟩
        · obtain rfl : N = i := by omega
          have hpz := HPZ.out
          by_cases hp10 : 10 ≤ p
          · rw [if_pos hp10] at hpz
            have q1 : decide ((p : Int) < 10) = false := decide_eq_false (by omega)
            have q2 : decide ((10 : Int) ≤ (p : Int)) = true := decide_eq_true (by omega)
            have q3 : ((P.size : Nat) : Int) = (N : Int) + (rows : Int) := by omega
            clear hpz hp10
            go_wp2_with fail
            go_ret
            exact ⟨rfl, HSp.out.ext⟩
          · rw [if_neg hp10] at hpz
            have q1 : decide ((p : Int) < 10) = true := decide_eq_true (by omega)
            have q3 : ((P.size : Nat) : Int) = (N : Int) := by omega
            clear hpz hp10
            go_wp2_with fail
            go_ret
            exact ⟨rfl, HSp.out.ext⟩
    · have hcw : ∀ w, Calls Try.prog 8 #[.agg #[.int .i64 p0, .int .i64 c, .int .i64 b, .int .i64 k]] w fun e w' => e = .returned (.int .i64 2) ∧ Ext [] w w' := fun w => by
        have h := check_walk p0 c b k w
        unfold gV at h
        rw [show gE p0 c b k = 2 from if_neg hok] at h
        exact h
      have hg : w2.heap[gb]? = some (.cells #[.int .i64 p0, .int .i64 c, .int .i64 b, .int .i64 k] 23 (0, 0)) := HSp.out.get 0 rfl
      have e0 : w2.cell? ⟨gb, 0, none⟩ = some (.int .i64 p0) := cellOf hg 0
      have e1 : w2.cell? ⟨gb, 1, none⟩ = some (.int .i64 c) := cellOf hg 1
      have e2 : w2.cell? ⟨gb, 2, none⟩ = some (.int .i64 b) := cellOf hg 2
      have e3 : w2.cell? ⟨gb, 3, none⟩ = some (.int .i64 k) := cellOf hg 3
      clear hg
      have HCW := Lib.hid hcw
      clear hcw hok
      go_wp2_with fail
      refine (HCW.out _).mono ?_
      rintro e w3 ⟨rfl, hx1⟩
      have Sp := HSp.out.quiet hx1
      have HSp := Lib.hid Sp
      clear Sp hx1
      go_wp2_with fail
      go_ret
      exact ⟨rfl, HSp.out.ext⟩
  · have k1 : decide ((1500 : Int) < (s.size : Int)) = true := decide_eq_true (by omega)
    go_wp2_with fail
    go_ret
    exact ⟨rfl, HSp.out.ext⟩
end Go.Proofs.Ytoiegmdlbcbgoaa.Pr
