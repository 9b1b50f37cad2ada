/-
  PredictLeast walked.
-/
import Derived.Test.YtoiegmdlbcbgoaaPrK
import Derived.Deep.CutBlock
import Derived.Deep.DeepCutAuto
namespace Go.Proofs.Ytoiegmdlbcbgoaa.Pr
open Go.RowKit

def gC (p c b k : Int) : Array Value := #[.int .i64 p, .int .i64 c, .int .i64 b, .int .i64 k]
theorem B_take (s : ByteArray) (n : Nat) : B (s.extract 0 n) = (B s).take n := by
  unfold B
  rw [ByteArray.data_extract, Array.toList_extract]
  simp
set_option maxRecDepth 100000 in
set_option maxHeartbeats 8000000 in
theorem leastLaw_walk (s : ByteArray) (v : Value) (way : Int) (w : World) (_hs : s.size ≤ maxLen) (hv : ∃ p c b k : Int, v = gV p c b k ∧ (-9223372036854775808 ≤ p ∧ p ≤ 9223372036854775807) ∧ (-9223372036854775808 ≤ c ∧ c ≤ 9223372036854775807) ∧ (-9223372036854775808 ≤ b ∧ b ≤ 9223372036854775807) ∧ (-9223372036854775808 ≤ k ∧ k ≤ 9223372036854775807)) (ww : (Lit.int .i64 way).wf = true) :
    Calls Try.prog 5 #[.string s, v, .int .i64 way] w fun e w' => e = .returned (.bool true) ∧ Ext [] w w' := by
  obtain ⟨p0, c, b, k, rfl, _, _, _, _⟩ := hv
  obtain ⟨ww0, ww1⟩ := Kt.wf_i64 ww
  have hs' : s.size ≤ 9223372036854775807 := _hs
  unfold gV
  clear ww
  go_enter Try.func5, Try.ntmps5
  go_wp2_with fail
  obtain ⟨W0, hW0, hg0, hx0⟩ : ∃ W, w.alloc (.cells #[.int .i64 p0, .int .i64 c, .int .i64 b, .int .i64 k] 23) = W ∧ W.heap[w.heap.size]? = some (.cells #[.int .i64 p0, .int .i64 c, .int .i64 b, .int .i64 k] 23 (0, 0)) ∧ Ext [] w W := ⟨_, rfl, heap_alloc_at _, (Ext.refl _ _).alloc _⟩
  rw [hW0]
  obtain ⟨gb, hgb⟩ : ∃ gb, w.heap.size = gb := ⟨_, rfl⟩
  rw [hgb] at hg0 ⊢
  have Sp := (Sep.start w).new hx0 (Ob.one gb (.cells #[.int .i64 p0, .int .i64 c, .int .i64 b, .int .i64 k] 23 (0, 0))) hg0 (fun q hq => by rw [List.mem_singleton.1 hq]; omega)
  have HSp := Lib.hid Sp
  clear hW0 hg0 hx0 Sp hgb
  refine (lives15 _).mono ?_
  rintro e w1 ⟨rfl, hx1⟩
  have Sp := HSp.out.quiet hx1
  have hg := Sp.get 0 rfl
  have d0 : w1.cell? ⟨gb, 0, none⟩ = some (.int .i64 p0) := cellOf hg 0
  have f0 : w1.frozen? ⟨gb, 0, none⟩ = false := freeOf hg 0
  have Sp := Sp.upd 0 (Ob.one gb (.cells #[.int .i64 15, .int .i64 c, .int .i64 b, .int .i64 k] 23 (0, 0))) rfl ((Ext.refl [gb] w1).setCell ⟨gb, 0, none⟩ (.int .i64 15) (.inl (by simp))) (Fr.refl _ _) (heap_setCell_same hg _)
  obtain ⟨w2, hw2⟩ : ∃ w2, w1.setCell ⟨gb, 0, none⟩ (.int .i64 15) = w2 := ⟨_, rfl⟩
  rw [hw2] at Sp
  have HSp := Lib.hid Sp
  clear Sp hx1 hg
  by_cases h1 : s.size ≤ 1500
  · have k1 : decide ((1500 : Int) < (s.size : Int)) = false := decide_eq_false (by omega)
    have hcw := check_walk 15 c b k
    unfold gV at hcw
    have hg2 := HSp.out.get 0 rfl
    have e0 : w2.cell? ⟨gb, 0, none⟩ = some (.int .i64 15) := cellOf hg2 0
    have e1 : w2.cell? ⟨gb, 1, none⟩ = some (.int .i64 c) := cellOf hg2 1
    have e2 : w2.cell? ⟨gb, 2, none⟩ = some (.int .i64 b) := cellOf hg2 2
    have e3 : w2.cell? ⟨gb, 3, none⟩ = some (.int .i64 k) := cellOf hg2 3
    clear hg2
    by_cases hok : gOk 15 c b k
    · rw [show gE 15 c b k = 0 from if_pos hok] at hcw
      have HCW := Lib.hid hcw
      have hnb := rowN_bounds hok
      have hrw := fun w => row_walk 15 c b k w hok
      unfold gV at hrw
      obtain ⟨n, hn⟩ : ∃ n, rowN c b k = n := ⟨_, rfl⟩
      obtain ⟨bs, hbs⟩ : ∃ bs, besN c b = bs := ⟨_, rfl⟩
      rw [hn] at hrw hnb
      obtain ⟨n1, n2⟩ := hnb
      have HRW := Lib.hid hrw
      obtain ⟨rows, hrows⟩ : ∃ rows, s.size / n = rows := ⟨_, rfl⟩
      obtain ⟨N, hN⟩ : ∃ N, rows * n = N := ⟨_, rfl⟩
      have hNs : N ≤ s.size := by rw [← hN, ← hrows]; exact Nat.div_mul_le_self _ _
      obtain ⟨s2, hs2⟩ : ∃ s2, s.extract 0 N = s2 := ⟨_, rfl⟩
      have hs2z : s2.size = N := by rw [← hs2]; simp; omega
      obtain ⟨T, hT⟩ : ∃ T, rows * (n + 1) = T := ⟨_, rfl⟩
      have hrn : rows ≤ N := by rw [← hN]; exact Nat.le_mul_of_pos_right _ (by omega)
      have hTs : T ≤ 3000 := by rw [← hT, Nat.mul_add, hN]; omega
      obtain ⟨q, hq⟩ : ∃ q : Nat, way % 5 = (q : Int) := ⟨(way % 5).toNat, by omega⟩
      have hq4 : q ≤ 4 := by omega
      have hlaw := fun j => least_law bs n q (byteF s2) j hq4
      have hput : ∀ (p : Nat), 10 ≤ p → p ≤ 15 → gOk p c b k → ∃ P : ByteArray, B P = (List.range rows).flatMap (rowO p bs n (byteF s2)) ∧ P.size = T ∧ ∀ w, Calls Try.prog 11 #[.string s2, .agg #[.int .i64 (p : Int), .int .i64 c, .int .i64 b, .int .i64 k]] w fun e w' => e = .returned (.tuple #[.string P, .int .i64 0]) ∧ Ext [] w w' := fun p hp hp2 hg =>
        ⟨Pr.S _, B_S _, by rw [S_size, flat_len _ (n + 1) (rowO_len p bs n (byteF s2)), hT], fun w => put10_walk s2 p c b k w (by omega) hg hp hp2 n rows bs hn hbs (by rw [hs2z, hN])⟩
      have hgq : gOk ((10 + q : Nat) : Int) c b k := ⟨.inr (.inr (by omega)), hok.2⟩
      obtain ⟨P, hP, hPz, hPw⟩ := hput 15 (by omega) (by omega) hok
      obtain ⟨Q, hQ, hQz, hQw⟩ := hput (10 + q) (by omega) (by omega) hgq
      rw [show ((10 + q : Nat) : Int) = 10 + (q : Int) by omega] at hQw
      have hPW := fun j hj => rows_weight 15 bs n (byteF s2) rows j hj P hP
      have hQW := fun j hj => rows_weight (10 + q) bs n (byteF s2) rows j hj Q hQ
      have hPA := fun j hj => rows_way 15 bs n (byteF s2) rows j hj P hP
      have hQA := fun j hj => rows_way (10 + q) bs n (byteF s2) rows j hj Q hQ
      have key : ∀ j, j < rows → ∃ wy : Nat, wy ≤ 4 ∧ byteF P (j * (n + 1)) = UInt8.ofNat wy ∧ byteF Q (j * (n + 1)) = UInt8.ofNat q ∧ wS (fun i => byteF P (j * (n + 1) + 1 + i)) n ≤ wS (fun i => byteF Q (j * (n + 1) + 1 + i)) n ∧ (wS (fun i => byteF P (j * (n + 1) + 1 + i)) n = wS (fun i => byteF Q (j * (n + 1) + 1 + i)) n → wy ≤ q) := fun j hj => by
        obtain ⟨l1, l2, l3, l4⟩ := hlaw j
        have hqa := hQA j hj
        have hqw := hQW j hj
        rw [l2] at hqa hqw
        exact ⟨_, l1, hPA j hj, hqa, by rw [hPW j hj, hqw]; exact l3, by rw [hPW j hj, hqw]; exact l4⟩
      have KEY := Lib.hid key
      have HPW := Lib.hid hPw
      have HQW := Lib.hid hQw
      have hri : (s.size : Int) / (n : Int) = (rows : Int) := by rw [← hrows]; exact (Int.natCast_ediv _ _).symm ▸ rfl
      have hNi : (rows : Int) * (n : Int) = (N : Int) := by rw [← hN]; simp
      have hTi : (rows : Int) * ((n : Int) + 1) = (T : Int) := by rw [← hT]; simp
      have hNr : (N : Int) / (n : Int) = (rows : Int) := by rw [← hNi]; exact Int.mul_ediv_cancel _ (by omega)
      have HT := Lib.hid hT
      clear hcw hok hn hbs hrw hrows hN hT hlaw hput hgq hP hQ hPw hQw hPW hQW hPA hQA key
      go_wp2_with fail
      refine (HCW.out _).mono ?_
      clear e0 e1 e2 e3 hw2 d0 f0
      rintro e w3 ⟨rfl, hx1⟩
      have Sp := HSp.out.quiet hx1
      have hg : w3.heap[gb]? = some (.cells #[.int .i64 15, .int .i64 c, .int .i64 b, .int .i64 k] 23 (0, 0)) := Sp.get 0 rfl
      have e0 : w3.cell? ⟨gb, 0, none⟩ = some (.int .i64 15) := cellOf hg 0
      have e1 : w3.cell? ⟨gb, 1, none⟩ = some (.int .i64 c) := cellOf hg 1
      have e2 : w3.cell? ⟨gb, 2, none⟩ = some (.int .i64 b) := cellOf hg 2
      have e3 : w3.cell? ⟨gb, 3, none⟩ = some (.int .i64 k) := cellOf hg 3
      have HSp := Lib.hid Sp
      clear Sp hx1 hg
      go_wp2_with fail
      refine (HRW.out _).mono ?_
      clear e0 e1 e2 e3
      rintro e w4 ⟨rfl, hx1⟩
      have Sp := HSp.out.quiet hx1
      have hg : w4.heap[gb]? = some (.cells #[.int .i64 15, .int .i64 c, .int .i64 b, .int .i64 k] 23 (0, 0)) := Sp.get 0 rfl
      have e0 : w4.cell? ⟨gb, 0, none⟩ = some (.int .i64 15) := cellOf hg 0
      have e1 : w4.cell? ⟨gb, 1, none⟩ = some (.int .i64 c) := cellOf hg 1
      have e2 : w4.cell? ⟨gb, 2, none⟩ = some (.int .i64 b) := cellOf hg 2
      have e3 : w4.cell? ⟨gb, 3, none⟩ = some (.int .i64 k) := cellOf hg 3
      have HSp := Lib.hid Sp
      clear Sp hx1 hg
      go_wp2_with fail
      refine (Kt.pick_any way 5 _ (by omega) (by omega) ww0 ww1).mono ?_
      rintro e w5 ⟨rfl, rfl⟩
      rw [hq]
      go_upto_region 12 with (fail)
      obtain ⟨hb, hhb⟩ : ∃ hb, w4.heap.size = hb := ⟨_, rfl⟩
      obtain ⟨w5, hw5⟩ : ∃ w5, w4.alloc (.cells #[.int .i64 (10 + (q : Int)), .int .i64 c, .int .i64 b, .int .i64 k] 23) = w5 := ⟨_, rfl⟩
      have Sp := HSp.out.new ((Ext.refl _ w4).alloc (.cells #[.int .i64 (10 + (q : Int)), .int .i64 c, .int .i64 b, .int .i64 k] 23)) (Ob.one w4.heap.size (.cells #[.int .i64 (10 + (q : Int)), .int .i64 c, .int .i64 b, .int .i64 k] 23 (0, 0))) (heap_alloc_at _) (fun q hq => by rw [List.mem_singleton.1 hq]; exact Nat.le_refl _)
      rw [hw5, hhb] at Sp
      rw [hw5, hhb]
      clear e0 e1 e2 e3
      have hg : w5.heap[gb]? = some (.cells #[.int .i64 15, .int .i64 c, .int .i64 b, .int .i64 k] 23 (0, 0)) := Sp.get 1 rfl
      have e0 : w5.cell? ⟨gb, 0, none⟩ = some (.int .i64 15) := cellOf hg 0
      have e1 : w5.cell? ⟨gb, 1, none⟩ = some (.int .i64 c) := cellOf hg 1
      have e2 : w5.cell? ⟨gb, 2, none⟩ = some (.int .i64 b) := cellOf hg 2
      have e3 : w5.cell? ⟨gb, 3, none⟩ = some (.int .i64 k) := cellOf hg 3
      have HSp := Lib.hid Sp
      clear Sp hw5 hhb hq hg
      go_wp2_with fail
      refine (HPW.out _).mono ?_
      clear e0 e1 e2 e3
      rintro e w6 ⟨rfl, hx1⟩
      have Sp := HSp.out.quiet hx1
      have hg : w6.heap[hb]? = some (.cells #[.int .i64 (10 + (q : Int)), .int .i64 c, .int .i64 b, .int .i64 k] 23 (0, 0)) := Sp.get 0 rfl
      have e0 : w6.cell? ⟨hb, 0, none⟩ = some (.int .i64 (10 + (q : Int))) := cellOf hg 0
      have e1 : w6.cell? ⟨hb, 1, none⟩ = some (.int .i64 c) := cellOf hg 1
      have e2 : w6.cell? ⟨hb, 2, none⟩ = some (.int .i64 b) := cellOf hg 2
      have e3 : w6.cell? ⟨hb, 3, none⟩ = some (.int .i64 k) := cellOf hg 3
      have HSp := Lib.hid Sp
      clear Sp hx1 hg
      go_wp2_with fail
      refine (HQW.out _).mono ?_
      clear e0 e1 e2 e3
      rintro e w7 ⟨rfl, hx1⟩
      have Sp := HSp.out.quiet hx1
      have HSp := Lib.hid Sp
      clear Sp hx1
      go_wp2_with fail
      clear hri hNi hTi hNr
      go_loopg [13, 14, 15, 16] rows (fun gg av _ _ _ wr => ∃ j a : Nat, gg + j = rows ∧ a = j * (n + 1) ∧ av = .int .i64 a ∧ Sep w wr [Ob.one hb (.cells #[.int .i64 (10 + (q : Int)), .int .i64 c, .int .i64 b, .int .i64 k] 23 (0, 0)), Ob.one gb (.cells #[.int .i64 15, .int .i64 c, .int .i64 b, .int .i64 k] 23 (0, 0))])
      case atStart => exact ⟨0, 0, by omega, by simp, rfl, HSp.out⟩
      case round =>
        clear HSp
        obtain ⟨j, a, hgj, ha, rfl, Sp⟩ := hrel
        have HSp := Lib.hid Sp
        clear Sp
        by_cases hlt : j < rows
        · have hle : (j + 1) * (n + 1) ≤ rows * (n + 1) := Nat.mul_le_mul_right (n + 1) hlt
          rw [HT.out, Nat.add_mul, Nat.one_mul, ← ha] at hle
          obtain ⟨wy, y1, y2, y3, y4, y5⟩ := KEY.out j hlt
          rw [← ha] at y2 y3 y4 y5
          have HA := Lib.hid ha
          have haP : a < P.size := by omega
          have haQ : a < Q.size := by omega
          have hPa : ((P[a]'haP).toNat : Int) = (wy : Int) := by rw [bget, y2, UInt8.toNat_ofNat']; omega
          have hQa : ((Q[a]'haQ).toNat : Int) = (q : Int) := by rw [bget, y3, UInt8.toNat_ofNat']; omega
          have HPA := Lib.hid hPa
          have HQA := Lib.hid hQa
          have hle2 := wS_le (fun i => byteF P (a + 1 + i)) n
          have hle3 := wS_le (fun i => byteF Q (a + 1 + i)) n
          have Y4 := Lib.hid y4
          have Y5 := Lib.hid y5
          clear ha y2 y3 y4 y5 hPa hQa hle2 hle3
          have l1 : (a : Int) < (T : Int) := by omega
          go_wp2_with fail
          go_loopg [14, 15, 16] n (fun gg sv tv iv wr2 => ∃ i : Nat, gg + i = n ∧ iv = .int .i64 ((a : Int) + 1 + (i : Int)) ∧ sv = .int .i64 (wS (fun i => byteF P (a + 1 + i)) i : Nat) ∧ tv = .int .i64 (wS (fun i => byteF Q (a + 1 + i)) i : Nat) ∧ Ext [] wr wr2)
          case atStart => exact ⟨0, by omega, by go_num, rfl, rfl, Ext.refl _ _⟩
          case round =>
            obtain ⟨i, hgi, rfl, rfl, rfl, hx2⟩ := hrel
            have HX2 := Lib.hid hx2
            clear hx2
            have hl2 := wS_le (fun i => byteF P (a + 1 + i)) i
            have hl3 := wS_le (fun i => byteF Q (a + 1 + i)) i
            by_cases hin : i < n
            · have hiP : a + 1 + i < P.size := by omega
              have hiQ : a + 1 + i < Q.size := by omega
              have hnp : wS (fun i => byteF P (a + 1 + i)) (i + 1) = wS (fun i => byteF P (a + 1 + i)) i + wt (P[a + 1 + i]'hiP) := by rw [bget]; rfl
              have hnq : wS (fun i => byteF Q (a + 1 + i)) (i + 1) = wS (fun i => byteF Q (a + 1 + i)) i + wt (Q[a + 1 + i]'hiQ) := by rw [bget]; rfl
              have hbp := (P[a + 1 + i]'hiP).toNat_lt
              have hbq := (Q[a + 1 + i]'hiQ).toNat_lt
              obtain ⟨zp, hzp⟩ : ∃ z, (P[a + 1 + i]'hiP) = z := ⟨_, rfl⟩
              obtain ⟨zq, hzq⟩ : ∃ z, (Q[a + 1 + i]'hiQ) = z := ⟨_, rfl⟩
              rw [hzp] at hnp hbp
              rw [hzq] at hnq hbq
              have mp : (if 256 - (zp.toNat : Int) < (zp.toNat : Int) then 256 - (zp.toNat : Int) else (zp.toNat : Int)) = ((wt zp : Nat) : Int) := by unfold wt; split <;> omega
              have mq : (if 256 - (zq.toNat : Int) < (zq.toNat : Int) then 256 - (zq.toNat : Int) else (zq.toNat : Int)) = ((wt zq : Nat) : Int) := by unfold wt; split <;> omega
              have wp1 : wt zp ≤ 128 := by unfold wt; omega
              have wq1 : wt zq ≤ 128 := by unfold wt; omega
              generalize wt zp = xp at *
              generalize wt zq = xq at *
              generalize wS (fun i => byteF P (a + 1 + i)) i = sp at *
              generalize wS (fun i => byteF Q (a + 1 + i)) i = sq at *
              have HNP := Lib.hid hnp
              have HNQ := Lib.hid hnq
              clear hnp hnq
              have o1 : (0 : Int) ≤ (a : Int) + 1 + (i : Int) := by omega
              have o2 : (a : Int) + 1 + (i : Int) < (T : Int) := by omega
              have o3 : ((a : Int) + 1 + (i : Int)).toNat = a + 1 + i := by omega
              go_wp2_with fail
              go_region
              go_wp2_with fail
              go_roundg (n - (i + 1))
              case measure => omega
              case rel => exact ⟨i + 1, by omega, by go_num, by rw [HNP.out]; go_num, by rw [HNQ.out]; go_num, HX2.out.drew⟩
            · obtain rfl : n = i := by omega
              have Sp3 := HSp.out.quiet HX2.out
              have hg3 : wr.heap[hb]? = some (.cells #[.int .i64 (10 + (q : Int)), .int .i64 c, .int .i64 b, .int .i64 k] 23 (0, 0)) := Sp3.get 0 rfl
              have v0 : wr.cell? ⟨hb, 0, none⟩ = some (.int .i64 (10 + (q : Int))) := cellOf hg3 0
              have y4 := Y4.out
              have y5 := Y5.out
              generalize wS (fun i => byteF P (a + 1 + i)) n = A at *
              generalize wS (fun i => byteF Q (a + 1 + i)) n = Bv at *
              obtain ⟨pa, hpa⟩ : ∃ z, P[a]'haP = z := ⟨_, rfl⟩
              obtain ⟨qa, hqa⟩ : ∃ z, Q[a]'haQ = z := ⟨_, rfl⟩
              have ep : (pa.toNat : Int) = (wy : Int) := by rw [← hpa]; exact HPA.out
              have eq' : (qa.toNat : Int) = (q : Int) := by rw [← hqa]; exact HQA.out
              have t1 : decide (Bv < A) = false := decide_eq_false (by omega)
              have t1' : decide ((Bv : Int) < (A : Int)) = false := decide_eq_false (by omega)
              have t2 : decide ((4 : Int) < (wy : Int)) = false := decide_eq_false (by omega)
              have t3 : (10 : Int) + (q : Int) - 10 = (q : Int) := by omega
              have b0 : (0 : Int) ≤ (a : Int) := by omega
              have HS3 := Lib.hid Sp3
              by_cases hAB : A = Bv
              · have hwq := y5 hAB
                have t4 : decide ((q : Int) < (wy : Int)) = false := decide_eq_false (by omega)
                have t4' : decide (q < wy) = false := decide_eq_false (by omega)
                have t5 : ((A : Int) == (Bv : Int)) = true := by rw [hAB]; simp
                subst hAB
                clear y4 y5 Sp3 hg3
                go_wp2_with fail
                go_quiet (fail)
                go_wp2_with fail
                go_roundg (rows - (j + 1))
                case measure => omega
                case rel => exact ⟨j + 1, a + (n + 1), by omega, by rw [HA.out, Nat.add_mul, Nat.one_mul], by go_num, HS3.out.quiet ((Ext.refl _ _).drewN _)⟩
              · have t5 : ((A : Int) == (Bv : Int)) = false := beq_eq_false_iff_ne.2 (by omega)
                clear y4 y5 Sp3 hg3
                go_wp2_with fail
                go_quiet (fail)
                go_wp2_with fail
                go_roundg (rows - (j + 1))
                case measure => omega
                case rel => exact ⟨j + 1, a + (n + 1), by omega, by rw [HA.out, Nat.add_mul, Nat.one_mul], by go_num, HS3.out.quiet ((Ext.refl _ _).drewN _)⟩
        · have l1 : ¬ ((a : Int) < (T : Int)) := by
            have : a = T := by rw [ha, ← HT.out, show j = rows by omega]
            omega
          clear ha
          go_wp2_with fail
          go_ret
          exact ⟨rfl, HSp.out.ext⟩
    · rw [show gE 15 c b k = 2 from if_neg hok] at hcw
      have HCW := Lib.hid hcw
      clear hcw hok
      go_wp2_with fail
      refine (HCW.out _).mono ?_
      rintro e w3 ⟨rfl, hx1⟩
      have Sp := HSp.out.quiet hx1
      have HSp := Lib.hid Sp
      clear Sp hx1
      go_wp2_with fail
      go_ret
      exact ⟨rfl, HSp.out.ext⟩
  · have k1 : decide ((1500 : Int) < (s.size : Int)) = true := decide_eq_true (by omega)
    go_wp2_with fail
    go_ret
    exact ⟨rfl, HSp.out.ext⟩
end Go.Proofs.Ytoiegmdlbcbgoaa.Pr
