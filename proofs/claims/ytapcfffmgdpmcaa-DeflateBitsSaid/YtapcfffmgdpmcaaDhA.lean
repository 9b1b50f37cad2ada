/-
  The law DeflateCounts walked; the chapter's examples.
-/
import Derived.Test.YtapcfffmgdpmcaaDgE
import Derived.Test.YtapcfffmgdpmcaaDgD
import Derived.Test.YtapcfffmgdpmcaaDgC
import Derived.Test.YtapcfffmgdpmcaaMtV
namespace Go.Proofs.Ytapcfffmgdpmcaa.De
open Go.RowKit Bt Hu If Mt

theorem ex10_1 : storedN ⟨#[97, 98]⟩ = ⟨#[1, 2, 0, 253, 255, 97, 98]⟩ := by kernel_rfl
theorem ex10_2 : fixedN ⟨#[97]⟩ = ⟨#[75, 4, 0]⟩ := by kernel_rfl
set_option maxRecDepth 100000 in
set_option maxHeartbeats 4000000 in
theorem lives10 (w : World) : Calls Try.prog 7 #[] w fun e w' => e = .returned (.bool true) ∧ Ext [] w w' := by
  go_enter Try.func7, Try.ntmps7
  go_wp2_with fail
  refine (stored_walk ⟨#[97, 98]⟩ w (by decide)).mono ?_
  rw [ex10_1]
  rintro e w1 ⟨rfl, hx⟩
  have HX := Lib.hid hx
  clear hx
  go_wp2_with fail
  refine (fixedD_walk ⟨#[97]⟩ w1 (by decide)).mono ?_
  rw [ex10_2]
  rintro e w2 ⟨rfl, hx⟩
  have HX := Lib.hid (HX.out.trans hx)
  clear hx
  go_wp2_with fail
  go_ret
  exact ⟨rfl, HX.out⟩
theorem sum_rg {m : Int} : ∀ {l : List Int}, Rg m l → 0 ≤ l.sum ∧ l.sum ≤ m * l.length
  | [], _ => by simp
  | x :: l, h => by
    obtain ⟨a, b⟩ := sum_rg (l := l) (fun y hy => h y (by simp [hy]))
    have hx := h x (by simp)
    rw [List.sum_cons, List.length_cons, show ((l.length + 1 : Nat) : Int) = (l.length : Int) + 1 by omega, Int.mul_add, Int.mul_one]
    omega
theorem take_next {l : List Int} {k : Nat} (h : k < l.length) : l.take (k + 1) = l.take k ++ [l.getD k 0] := by
  rw [List.take_add_one, List.getD_eq_getElem?_getD, List.getElem?_eq_getElem h]
  rfl
/-- sums of a row's first numbers, and of those behind the 257th -/
def sumT (l : List Int) (k : Nat) : Int := (l.take k).sum
def sumM (l : List Int) (k : Nat) : Int := ((l.take k).drop 257).sum
theorem sumT_next {l : List Int} {k : Nat} (h : k < l.length) : sumT l (k + 1) = sumT l k + l.getD k 0 := by
  unfold sumT
  rw [take_next h, List.sum_append]
  simp
theorem sumM_next {l : List Int} {k : Nat} (h : k < l.length) : sumM l (k + 1) = sumM l k + if 256 < k then l.getD k 0 else 0 := by
  unfold sumM
  rw [take_next h]
  by_cases hk : 256 < k
  · rw [if_pos hk, List.drop_append_of_le_length (by rw [List.length_take]; omega), List.sum_append]
    simp
  · rw [if_neg hk, List.drop_of_length_le (by rw [List.length_append, List.length_take, List.length_singleton]; omega), List.drop_of_length_le (by rw [List.length_take]; omega)]
    rfl
theorem sumT_rg {m : Int} {l : List Int} (h : Rg m l) (hm : 0 ≤ m) (k : Nat) : 0 ≤ sumT l k ∧ sumT l k ≤ m * l.length := by
  obtain ⟨a, b⟩ := sum_rg (l := l.take k) (fun x hx => h x (List.mem_of_mem_take hx))
  refine ⟨a, Int.le_trans b (Int.mul_le_mul_of_nonneg_left ?_ hm)⟩
  rw [List.length_take]
  omega
theorem sumM_rg {m : Int} {l : List Int} (h : Rg m l) (hm : 0 ≤ m) (k : Nat) : 0 ≤ sumM l k ∧ sumM l k ≤ m * l.length := by
  obtain ⟨a, b⟩ := sum_rg (l := (l.take k).drop 257) (fun x hx => h x (List.mem_of_mem_take (List.mem_of_mem_drop hx)))
  refine ⟨a, Int.le_trans b (Int.mul_le_mul_of_nonneg_left ?_ hm)⟩
  rw [List.length_drop, List.length_take]
  omega
/-- what the law asks -/
structure CntLaw (l : List Pc) : Prop where
  l1 : (cntA l).length = 286
  l2 : (cntB l).length = 30
  r1 : Rg (l.length + 1) (cntA l)
  r2 : Rg (l.length + 1) (cntB l)
  at256 : (cntA l).getD 256 0 = 1
  all_ : sumT (cntA l) 286 = l.length + 1
  diff : sumM (cntA l) 286 - sumT (cntB l) 30 = 0
theorem cnt_law (l : List Pc) (hc : chkN l = 0) : CntLaw l := by
  obtain ⟨hbad, hchk⟩ := chk_zero hc
  have C := cnt_ok l (zers 286) (zers 30) 0 hbad (zers_len _) (zers_len _) (Int.le_refl _) (Rg.zers _) (Rg.zers _)
  have h1 : (cntA l).length = 286 := by unfold cntA; rw [inc_len]; exact C.len1
  have z : ∀ n, (zers n).sum = 0 := fun n => by
    unfold zers
    induction n with
    | zero => rfl
    | succ n ih => rw [List.replicate_succ, List.sum_cons, ih]; rfl
  have e256 : (cntL l (zers 286) (zers 30)).1.getD 256 0 = 0 := by rw [C.end_, zers_at]
  have hs := C.sum
  have hd := C.diff
  rw [z] at hs
  rw [show (zers 286).drop 257 = zers 29 by unfold zers; rw [List.drop_replicate], z, z] at hd
  have hrA : Rg (l.length + 1) (cntA l) := (C.rg1.mono (by omega)).inc (by omega) 256
  refine ⟨h1, C.len2, hrA, C.rg2.mono (by omega), ?_, ?_, ?_⟩
  · unfold cntA
    rw [inc_at, if_pos ⟨rfl, by rw [C.len1]; omega⟩, e256]
    rfl
  · unfold sumT
    rw [List.take_of_length_le (by omega)]
    unfold cntA
    rw [inc_sum _ _ (by rw [C.len1]; omega), hs]
    omega
  · unfold sumM sumT
    rw [List.take_of_length_le (by omega), List.take_of_length_le (by rw [show (cntB l).length = 30 from C.len2]; omega)]
    unfold cntA inc
    rw [drop_set_lt _ _ _ _ (by omega)]
    show _ - (cntL l (zers 286) (zers 30)).2.sum = 0
    omega
set_option maxRecDepth 100000 in
set_option maxHeartbeats 16000000 in
theorem counts_law (s : ByteArray) (w : World) (_hm : s.size ≤ maxLen) :
    Calls Try.prog 3 #[.string s] w fun e w' => e = .returned (.bool true) ∧ Ext [] w w' := by
  by_cases hs : s.size ≤ 500
  · have hal := allN_len s
    obtain ⟨L, hL⟩ : ∃ L, allN s = L := ⟨_, rfl⟩
    have hck := allN_chk s
    have hrw := fun w => rAll_walk s w (by omega)
    rw [hL] at hal hck hrw
    have HCW := Lib.hid (fun v w h => counts_walk v L w h (by omega) hck)
    have HR := Lib.hid hrw
    have HC := Lib.hid (cnt_law L hck)
    clear hL hck hrw
    go_enter Try.func3, Try.ntmps3
    go_wp2_with fail
    refine (lives10 w).mono ?_
    rintro e w1 ⟨rfl, hx⟩
    have HX := Lib.hid hx
    clear hx
    go_wp2_with fail
    refine (HR.out w1).mono ?_
    rintro e w2 ⟨v, rfl, hx, hP⟩
    have HX := Lib.hid (HX.out.trans hx)
    have HP := Lib.hid hP
    clear hx hP
    go_wp2_with fail
    refine (HCW.out v w2 HP.out).mono ?_
    rintro e w3 ⟨g1, g2, rfl, S⟩
    have HX := Lib.hid (HX.out.trans S.ext)
    obtain ⟨ao, cap, rfl⟩ := HP.out.slice
    have hr : ∀ k, k < 286 → w3.cell? ⟨g1, k, none⟩ = some (.int .i64 ((cntA L).getD k 0)) := fun k hk => row_at (g := g1) (S.get 0 rfl) (by rw [HC.out.l1]; exact hk)
    have hr2 : ∀ k, k < 30 → w3.cell? ⟨g2, k, none⟩ = some (.int .i64 ((cntB L).getD k 0)) := fun k hk => row_at (g := g2) (S.get 1 rfl) (by rw [HC.out.l2]; exact hk)
    have c1 := hr 256 (by omega)
    rw [HC.out.at256] at c1
    have HR1 := Lib.hid hr
    have HR2 := Lib.hid hr2
    clear S hr hr2
    go_wp2_with fail
    go_loopg [6, 7, 8] 286 (fun g av mv iv wr => ∃ k : Nat, g + k = 286 ∧ iv = .int .i64 k ∧ av = .int .i64 (sumT (cntA L) k) ∧ mv = .int .i64 (sumM (cntA L) k) ∧ wr = w3)
    case atStart => exact ⟨0, by omega, rfl, rfl, rfl, rfl⟩
    case round =>
      obtain ⟨k, hgk, rfl, rfl, rfl, rfl⟩ := hrel
      obtain ⟨s1, s2⟩ := sumT_rg HC.out.r1 (by omega) k
      obtain ⟨s3, s4⟩ := sumM_rg HC.out.r1 (by omega) k
      rw [HC.out.l1] at s2 s4
      have hb1 : (L.length + 1 : Int) * (286 : Nat) ≤ 200000 := by omega
      obtain ⟨M, hM⟩ : ∃ M, (L.length + 1 : Int) * (286 : Nat) = M := ⟨_, rfl⟩
      rw [hM] at s2 s4 hb1
      clear hM
      by_cases hlt : k < 286
      · obtain ⟨g, rfl⟩ : ∃ g, gk = g + 1 := ⟨gk - 1, by omega⟩
        have hkz : (k : Int) < 286 := by omega
        have c2 := HR1.out k hlt
        obtain ⟨y, hy⟩ : ∃ y, (cntA L).getD k 0 = y := ⟨_, rfl⟩
        have hyr := Rg.at HC.out.r1 (by omega) k
        have hnT := sumT_next (l := cntA L) (k := k) (by rw [HC.out.l1]; exact hlt)
        have hnM := sumM_next (l := cntA L) (k := k) (by rw [HC.out.l1]; exact hlt)
        rw [hy] at c2 hyr hnT hnM
        obtain ⟨a, ha⟩ : ∃ a, sumT (cntA L) k = a := ⟨_, rfl⟩
        obtain ⟨m, hm⟩ : ∃ m, sumM (cntA L) k = m := ⟨_, rfl⟩
        rw [ha] at hnT s1 s2 ⊢
        rw [hm] at hnM s3 s4 ⊢
        have HN := Lib.hid (⟨hnT, hnM⟩ : _ ∧ _)
        clear hy ha hm hnT hnM
        by_cases h256 : 256 < k
        · have h256z : (256 : Int) < (k : Int) := by omega
          go_wp2_with fail
          go_roundg g
          case measure => omega
          case rel => exact ⟨k + 1, by omega, by go_num, by rw [HN.out.1], by rw [HN.out.2, if_pos h256], rfl⟩
        · have h256z : ¬ (256 : Int) < (k : Int) := by omega
          go_wp2_with fail
          go_roundg g
          case measure => omega
          case rel => exact ⟨k + 1, by omega, by go_num, by rw [HN.out.1], by rw [HN.out.2, if_neg h256, Int.add_zero], rfl⟩
      · obtain rfl : k = 286 := by omega
        clear s1 s2 s3 s4
        rw [HC.out.all_]
        obtain ⟨m, hm⟩ : ∃ m, sumM (cntA L) 286 = m := ⟨_, rfl⟩
        rw [hm]
        have HMM := Lib.hid hm
        clear hm
        go_wp2_with fail
        go_loopg [7, 9] 30 (fun g mv iv w4 => ∃ k : Nat, g + k = 30 ∧ iv = .int .i64 k ∧ mv = .int .i64 (m - sumT (cntB L) k) ∧ w4 = wr)
        case atStart => exact ⟨0, by omega, rfl, by rw [show sumT (cntB L) 0 = 0 from rfl, Int.sub_zero], rfl⟩
        case round =>
          obtain ⟨k, hgk2, rfl, rfl, rfl⟩ := hrel
          obtain ⟨s1, s2⟩ := sumT_rg HC.out.r2 (by omega) k
          obtain ⟨s3, s4⟩ := sumM_rg HC.out.r1 (by omega) 286
          rw [HC.out.l2] at s2
          rw [HC.out.l1, HMM.out] at s4
          rw [HMM.out] at s3
          have hb1 : (L.length + 1 : Int) * (286 : Nat) ≤ 200000 := by omega
          have hb2 : (L.length + 1 : Int) * (30 : Nat) ≤ 200000 := by omega
          have s2 := Int.le_trans s2 hb2
          have s4 := Int.le_trans s4 hb1
          clear hb1 hb2
          by_cases hlt : k < 30
          · obtain ⟨g, rfl⟩ : ∃ g, gk = g + 1 := ⟨gk - 1, by omega⟩
            have hkz : (k : Int) < 30 := by omega
            have c2 := HR2.out k hlt
            obtain ⟨y, hy⟩ : ∃ y, (cntB L).getD k 0 = y := ⟨_, rfl⟩
            have hyr := Rg.at HC.out.r2 (by omega) k
            have hnT := sumT_next (l := cntB L) (k := k) (by rw [HC.out.l2]; exact hlt)
            rw [hy] at c2 hyr hnT
            obtain ⟨a, ha⟩ : ∃ a, sumT (cntB L) k = a := ⟨_, rfl⟩
            rw [ha] at hnT s1 s2 ⊢
            have HN := Lib.hid hnT
            clear hy ha hnT
            go_wp2_with fail
            go_roundg g
            case measure => omega
            case rel => exact ⟨k + 1, by omega, by go_num, by rw [HN.out]; congr 1; omega, rfl⟩
          · obtain rfl : k = 30 := by omega
            have hd := HC.out.diff
            rw [HMM.out] at hd
            rw [hd]
            clear hd s1 s2 s3 s4
            have hz : (L.length : Int) + 1 - 1 = L.length := by omega
            clear hz
            go_wp2_with fail
            go_ret
            exact ⟨rfl, HX.out⟩
  · go_enter Try.func3, Try.ntmps3
    go_wp2_with fail
    refine (lives10 w).mono ?_
    rintro e w1 ⟨rfl, hx⟩
    have HX := Lib.hid hx
    clear hx
    go_wp2_with fail
    go_ret
    exact ⟨rfl, HX.out⟩
end Go.Proofs.Ytapcfffmgdpmcaa.De
