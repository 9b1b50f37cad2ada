/-
  PredictRows walked.
-/
import Derived.Test.YtoiegmdlbcbgoaaPrR
namespace Go.Proofs.Ytoiegmdlbcbgoaa.Pr
open Go.RowKit

set_option maxRecDepth 100000 in
set_option maxHeartbeats 8000000 in
theorem rowsLaw_walk (s : ByteArray) (v : Value) (at0 wh0 : Int) (w : World) (_hs : s.size ≤ maxLen) (hv : ∃ p c b k : Int, v = gV p c b k ∧ (-9223372036854775808 ≤ p ∧ p ≤ 9223372036854775807) ∧ (-9223372036854775808 ≤ c ∧ c ≤ 9223372036854775807) ∧ (-9223372036854775808 ≤ b ∧ b ≤ 9223372036854775807) ∧ (-9223372036854775808 ≤ k ∧ k ≤ 9223372036854775807)) (wa : (Lit.int .i64 at0).wf = true) (ww : (Lit.int .u8 wh0).wf = true) :
    Calls Try.prog 3 #[.string s, v, .int .i64 at0, .int .u8 wh0] w fun e w' => e = .returned (.bool true) ∧ Ext [] w w' := by
  obtain ⟨p0, c, b, k, rfl, _, _, _, _⟩ := hv
  obtain ⟨a0, a1⟩ := Kt.wf_i64 wa
  obtain ⟨wh, rfl⟩ := Kt.wf_u8 ww
  have hs' : s.size ≤ 9223372036854775807 := _hs
  have wh8 := wh.toNat_lt
  unfold gV
  clear ww wa
  obtain ⟨r, hr⟩ : ∃ r : Nat, (wh.toNat : Int) % 3 = (r : Int) := ⟨wh.toNat % 3, by omega⟩
  have hr3 : r < 3 := by omega
  obtain ⟨p, hp, hcell⟩ : ∃ p : Nat, three p ∧ ∀ h, ([.int .i64 10, .int .i64 11, .int .i64 2] : List Value)[r]'h = .int .i64 (p : Int) := by
    match r, hr3 with
    | 0, _ => exact ⟨10, .inl rfl, fun _ => rfl⟩
    | 1, _ => exact ⟨11, .inr (.inl rfl), fun _ => rfl⟩
    | 2, _ => exact ⟨2, .inr (.inr rfl), fun _ => rfl⟩
  have r0 : (0 : Int) ≤ (r : Int) := by omega
  have r1 : (r : Int) < 3 := by omega
  go_enter Try.func3, Try.ntmps3
  go_wp2_with fail
  obtain ⟨W0, hW0, hg0, hx0⟩ : ∃ W, w.alloc (.cells #[.int .i64 p0, .int .i64 c, .int .i64 b, .int .i64 k] 23) = W ∧ W.heap[w.heap.size]? = some (.cells #[.int .i64 p0, .int .i64 c, .int .i64 b, .int .i64 k] 23 (0, 0)) ∧ Ext [] w W := ⟨_, rfl, heap_alloc_at _, (Ext.refl _ _).alloc _⟩
  rw [hW0]
  obtain ⟨gb, hgb⟩ : ∃ gb, w.heap.size = gb := ⟨_, rfl⟩
  rw [hgb] at hg0 ⊢
  have Sp := (Sep.start w).new hx0 (Ob.one gb (.cells #[.int .i64 p0, .int .i64 c, .int .i64 b, .int .i64 k] 23 (0, 0))) hg0 (fun q hq => by rw [List.mem_singleton.1 hq]; omega)
  have HSp := Lib.hid Sp
  clear hW0 hg0 hx0 Sp hgb
  refine (lives15 _).mono ?_
  rintro e w1 ⟨rfl, hx1⟩
  have Sp := HSp.out.quiet hx1
  have hg : w1.heap[gb]? = some (.cells #[.int .i64 p0, .int .i64 c, .int .i64 b, .int .i64 k] 23 (0, 0)) := Sp.get 0 rfl
  have d0 : w1.cell? ⟨gb, 0, none⟩ = some (.int .i64 p0) := cellOf hg 0
  have f0 : w1.frozen? ⟨gb, 0, none⟩ = false := freeOf hg 0
  have hgl := lt_of_block hg
  have HSp := Lib.hid Sp
  clear Sp hx1 hg
  go_upto_region 4 with (fail)
  have Sp := (HSp.out.upd 0 (Ob.one gb (.cells #[.int .i64 (p : Int), .int .i64 c, .int .i64 b, .int .i64 k] 23 (0, 0))) rfl ((Ext.refl [gb] w1).setCell ⟨gb, 0, none⟩ (.int .i64 (p : Int)) (.inl (by simp))) (Fr.refl _ _) (heap_setCell_same (HSp.out.get 0 rfl) _)).quiet ((Ext.refl _ _).alloc (.cells #[.int .i64 10, .int .i64 11, .int .i64 2] 3))
  obtain ⟨w2, hw2⟩ : ∃ w2, (w1.setCell ⟨gb, 0, none⟩ (.int .i64 (p : Int))).alloc (.cells #[.int .i64 10, .int .i64 11, .int .i64 2] 3) = w2 := ⟨_, rfl⟩
  rw [hw2] at Sp
  rw [hw2]
  have HSp := Lib.hid Sp
  clear Sp hw2 d0 f0 hgl hcell hr
  by_cases h1 : s.size ≤ 1500
  · have k1 : decide ((1500 : Int) < (s.size : Int)) = false := decide_eq_false (by omega)
    have hcw := check_walk p c b k
    unfold gV at hcw
    have hg : w2.heap[gb]? = some (.cells #[.int .i64 (p : Int), .int .i64 c, .int .i64 b, .int .i64 k] 23 (0, 0)) := HSp.out.get 0 rfl
    have e0 : w2.cell? ⟨gb, 0, none⟩ = some (.int .i64 (p : Int)) := cellOf hg 0
    have e1 : w2.cell? ⟨gb, 1, none⟩ = some (.int .i64 c) := cellOf hg 1
    have e2 : w2.cell? ⟨gb, 2, none⟩ = some (.int .i64 b) := cellOf hg 2
    have e3 : w2.cell? ⟨gb, 3, none⟩ = some (.int .i64 k) := cellOf hg 3
    clear hg
    by_cases hok : gOk p c b k
    · rw [show gE p c b k = 0 from if_pos hok] at hcw
      have HCW := Lib.hid hcw
      have hnb := rowN_bounds hok
      have hrw := fun w => row_walk p c b k w hok
      unfold gV at hrw
      obtain ⟨n, hn⟩ : ∃ n, rowN c b k = n := ⟨_, rfl⟩
      obtain ⟨bs, hbs⟩ : ∃ bs, besN c b = bs := ⟨_, rfl⟩
      rw [hn] at hrw hnb
      obtain ⟨n1, n2⟩ := hnb
      have HRW := Lib.hid hrw
      have HOK := Lib.hid (⟨hok, hn, hbs, hp⟩ : _ ∧ _ ∧ _ ∧ _)
      clear hcw hrw hok hn hbs hp
      go_wp2_with fail
      refine (HCW.out _).mono ?_
      clear e0 e1 e2 e3
      rintro e w3 ⟨rfl, hx1⟩
      have Sp := HSp.out.quiet hx1
      have hg : w3.heap[gb]? = some (.cells #[.int .i64 (p : Int), .int .i64 c, .int .i64 b, .int .i64 k] 23 (0, 0)) := Sp.get 0 rfl
      have e0 : w3.cell? ⟨gb, 0, none⟩ = some (.int .i64 (p : Int)) := cellOf hg 0
      have e1 : w3.cell? ⟨gb, 1, none⟩ = some (.int .i64 c) := cellOf hg 1
      have e2 : w3.cell? ⟨gb, 2, none⟩ = some (.int .i64 b) := cellOf hg 2
      have e3 : w3.cell? ⟨gb, 3, none⟩ = some (.int .i64 k) := cellOf hg 3
      have HSp := Lib.hid Sp
      clear Sp hx1 hg
      go_wp2_with fail
      refine (HRW.out _).mono ?_
      clear e0 e1 e2 e3
      rintro e w4 ⟨rfl, hx1⟩
      have Sp := HSp.out.quiet hx1
      have hg : w4.heap[gb]? = some (.cells #[.int .i64 (p : Int), .int .i64 c, .int .i64 b, .int .i64 k] 23 (0, 0)) := Sp.get 0 rfl
      have HSp := Lib.hid Sp
      clear Sp hx1
      by_cases hsn : s.size < n
      · have k2 : decide ((n : Int) < 1) = false := decide_eq_false (by omega)
        have k3 : decide (s.size < n) = true := decide_eq_true hsn
        have k4 : decide ((1 : Int) ≤ (n : Int)) = true := decide_eq_true (by omega)
        clear hg
        go_wp2_with fail
        go_ret
        exact ⟨by first | rfl | (rw [← k4]; rfl) | simp, HSp.out.ext⟩
      · have k2 : decide ((n : Int) < 1) = false := decide_eq_false (by omega)
        have k3 : decide (s.size < n) = false := decide_eq_false hsn
        obtain ⟨rows, hrows⟩ : ∃ rows, s.size / n = rows := ⟨_, rfl⟩
        have hrp : 1 ≤ rows := by rw [← hrows]; exact (Nat.one_le_div_iff (by omega)).2 (by omega)
        obtain ⟨N, hN⟩ : ∃ N, rows * n = N := ⟨_, rfl⟩
        have hNs : N ≤ s.size := by rw [← hN, ← hrows]; exact Nat.div_mul_le_self _ _
        have hrn : rows ≤ N := by rw [← hN]; exact Nat.le_mul_of_pos_right _ (by omega)
        obtain ⟨a, haa⟩ : ∃ a : Nat, at0 % (rows : Int) = (a : Int) := ⟨(at0 % (rows : Int)).toNat, by have := Int.emod_nonneg at0 (show (rows : Int) ≠ 0 by omega); omega⟩
        have har : a < rows := by have := Int.emod_lt_of_pos at0 (show (0 : Int) < (rows : Int) by omega); omega
        obtain ⟨hok, hn, hbs, hp⟩ := HOK.out
        obtain ⟨l1, l2, l3⟩ := rows_law s p bs n rows a c b k hp hok hn har
        have hle : (a + 1) * n ≤ rows * n := Nat.mul_le_mul_right n har
        have hle2 : (a + 1) * rowL p n ≤ rows * rowL p n := Nat.mul_le_mul_right _ har
        have hte : p = 10 → Pr.S ((List.range 1).flatMap (rowP p bs n c b k (byteF (s.extract (a * n) (a * n + n))))) = ⟨#[0]⟩ ++ s.extract (a * n) (a * n + n) := fun e => by rw [e]; exact ten_law s bs n a c b k (by rw [Nat.add_mul, Nat.one_mul, hN] at hle; omega)
        have hL0 : rowL p n ≤ n + 1 := by unfold rowL; split <;> omega
        have hz1 : (s.extract 0 (rows * n)).size = rows * n := by rw [hN]; simp; omega
        have hz2 : (s.extract (a * n) (a * n + n)).size = 1 * n := by rw [Nat.add_mul, Nat.one_mul, hN] at hle; simp; omega
        have hw1 := fun w => putP_walk (s.extract 0 (rows * n)) p c b k w (by rw [hz1, hN]; omega) hok hp n rows bs hn hbs hz1
        have hw2 := fun w => putP_walk (s.extract (a * n) (a * n + n)) p c b k w (by rw [hz2]; omega) hok hp n 1 bs hn hbs hz2
        generalize Pr.S ((List.range rows).flatMap (rowP p bs n c b k (byteF (s.extract 0 (rows * n))))) = P at *
        generalize Pr.S ((List.range 1).flatMap (rowP p bs n c b k (byteF (s.extract (a * n) (a * n + n))))) = Q at *
        generalize rowL p n = L at *
        rw [Nat.add_mul, Nat.one_mul] at hle hle2
        have hTb : rows * L ≤ rows * (n + 1) := Nat.mul_le_mul_left rows hL0
        rw [Nat.mul_add, Nat.mul_one, hN] at hTb
        have hNi : (rows : Int) * (n : Int) = (N : Int) := by rw [← hN]; push_cast; rfl
        obtain ⟨A, hA⟩ : ∃ A, a * n = A := ⟨_, rfl⟩
        have hAi : (a : Int) * (n : Int) = (A : Int) := by rw [← hA]; push_cast; rfl
        obtain ⟨T, hT⟩ : ∃ T, rows * L = T := ⟨_, rfl⟩
        have hTi : (rows : Int) * (L : Int) = (T : Int) := by rw [← hT]; push_cast; rfl
        obtain ⟨A2, hA2⟩ : ∃ A2, a * L = A2 := ⟨_, rfl⟩
        have hA2i : (a : Int) * (L : Int) = (A2 : Int) := by rw [← hA2]; push_cast; rfl
        rw [hN, hA] at hle
        rw [hT, hA2] at hle2
        rw [hT] at l1 hTb
        rw [hA2] at l3
        rw [hA] at hw2 hte
        rw [hN] at hw1
        obtain ⟨s1, hs1⟩ : ∃ s1, s.extract 0 N = s1 := ⟨_, rfl⟩
        obtain ⟨s2, hs2⟩ : ∃ s2, s.extract A (A + n) = s2 := ⟨_, rfl⟩
        have hs2z : s2.size ≤ 1500 := by rw [← hs2]; simp; omega
        rw [hs1] at hw1
        rw [hs2] at hw2 hte
        have hri : (s.size : Int) / (n : Int) = (rows : Int) := by rw [← hrows]; exact (Int.natCast_ediv _ _).symm ▸ rfl
        have HW1 := Lib.hid hw1
        have HW2 := Lib.hid hw2
        have HTE := Lib.hid hte
        have HAA := Lib.hid haa
        clear hw1 hw2 hte haa hok hn hbs hp hrows hN hA hT hA2 hz1 hz2
        go_wp2_with fail
        refine (Kt.pick_any at0 (rows : Int) _ (by omega) (by omega) a0 a1).mono ?_
        rintro e w5 ⟨rfl, rfl⟩
        rw [HAA.out]
        go_wp2_with fail
        refine wp_region_ext (by kernel_rfl) (by kernel_rfl) ?_
        have g0 : ∀ x : Ex w4, x.w.cell? ⟨gb, 0, none⟩ = some (.int .i64 (p : Int)) := fun x => cellOf (x.heap hg) 0
        have g1 : ∀ x : Ex w4, x.w.cell? ⟨gb, 1, none⟩ = some (.int .i64 c) := fun x => cellOf (x.heap hg) 1
        have g2 : ∀ x : Ex w4, x.w.cell? ⟨gb, 2, none⟩ = some (.int .i64 b) := fun x => cellOf (x.heap hg) 2
        have g3 : ∀ x : Ex w4, x.w.cell? ⟨gb, 3, none⟩ = some (.int .i64 k) := fun x => cellOf (x.heap hg) 3
        have b1 : (0 : Int) ≤ (N : Int) := by omega
        have b2 : (N : Int) ≤ (s.size : Int) := by omega
        repeat (go_big_quiet_step (first | (go_at_call 11; refine Calls.ext_of (HW1.out _))))
        refine wpQuiet_nil ?_
        rintro _ ⟨x5, rfl⟩
        obtain ⟨w6, hw6⟩ : ∃ w6, x5.w = w6 := ⟨_, rfl⟩
        have Sp := HSp.out.quiet x5.ext
        rw [hw6] at Sp
        rw [hw6]
        have hg6 : w6.heap[gb]? = some (.cells #[.int .i64 (p : Int), .int .i64 c, .int .i64 b, .int .i64 k] 23 (0, 0)) := Sp.get 0 rfl
        have HSp := Lib.hid Sp
        clear Sp hw6 g0 g1 g2 g3 hg
        go_wp2_with fail
        refine wp_region_ext (by kernel_rfl) (by kernel_rfl) ?_
        have g0 : ∀ x : Ex w6, x.w.cell? ⟨gb, 0, none⟩ = some (.int .i64 (p : Int)) := fun x => cellOf (x.heap hg6) 0
        have g1 : ∀ x : Ex w6, x.w.cell? ⟨gb, 1, none⟩ = some (.int .i64 c) := fun x => cellOf (x.heap hg6) 1
        have g2 : ∀ x : Ex w6, x.w.cell? ⟨gb, 2, none⟩ = some (.int .i64 b) := fun x => cellOf (x.heap hg6) 2
        have g3 : ∀ x : Ex w6, x.w.cell? ⟨gb, 3, none⟩ = some (.int .i64 k) := fun x => cellOf (x.heap hg6) 3
        have b3 : (0 : Int) ≤ (A : Int) := by omega
        have b4 : (A : Int) ≤ (A : Int) + (n : Int) := by omega
        have b5 : (A : Int) + (n : Int) ≤ (s.size : Int) := by omega
        repeat (go_big_quiet_step (first | (go_at_call 11; refine Calls.ext_of (HW2.out _))))
        refine wpQuiet_nil ?_
        rintro _ ⟨x7, rfl⟩
        obtain ⟨w8, hw8⟩ : ∃ w8, x7.w = w8 := ⟨_, rfl⟩
        have Sp := HSp.out.quiet x7.ext
        rw [hw8] at Sp
        rw [hw8]
        have hg8 : w8.heap[gb]? = some (.cells #[.int .i64 (p : Int), .int .i64 c, .int .i64 b, .int .i64 k] 23 (0, 0)) := Sp.get 0 rfl
        have v0 : w8.cell? ⟨gb, 0, none⟩ = some (.int .i64 (p : Int)) := cellOf hg8 0
        have HSp := Lib.hid Sp
        clear Sp hw8 g0 g1 g2 g3 hg6 hg8
        have u1 : (0 : Int) ≤ (A2 : Int) := by omega
        have u2 : (A2 : Int) ≤ (A2 : Int) + (L : Int) := by omega
        have u3 : (A2 : Int) + (L : Int) ≤ (T : Int) := by omega
        by_cases hp10 : p = 10
        · have hq := HTE.out hp10
          have q1 : ((p : Int) == 10) = true := by rw [hp10]; rfl
          have q2 : ((p : Int) != 10) = false := by rw [hp10]; rfl
          have q3 : (⟨#[0]⟩ : ByteArray) ++ s2 = Q := hq.symm
          clear hp10 hq
          go_wp2_with fail
          go_ret
          exact ⟨rfl, HSp.out.ext⟩
        · have q1 : ((p : Int) == 10) = false := beq_eq_false_iff_ne.2 (by omega)
          have q2 : ((p : Int) != 10) = true := bne_iff_ne.2 (by omega)
          clear hp10
          go_wp2_with fail
          go_ret
          exact ⟨rfl, HSp.out.ext⟩
    · rw [show gE p c b k = 2 from if_neg hok] at hcw
      have HCW := Lib.hid hcw
      clear hcw hok
      go_wp2_with fail
      refine (HCW.out _).mono ?_
      rintro e w3 ⟨rfl, hx1⟩
      have Sp := HSp.out.quiet hx1
      have HSp := Lib.hid Sp
      clear Sp hx1
      go_wp2_with fail
      go_ret
      exact ⟨rfl, HSp.out.ext⟩
  · have k1 : decide ((1500 : Int) < (s.size : Int)) = true := decide_eq_true (by omega)
    go_wp2_with fail
    go_ret
    exact ⟨rfl, HSp.out.ext⟩
end Go.Proofs.Ytoiegmdlbcbgoaa.Pr
