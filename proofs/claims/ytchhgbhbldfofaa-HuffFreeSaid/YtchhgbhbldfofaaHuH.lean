/-
  huff.State walked.
-/
import Derived.Test.YtchhgbhbldfofaaHuG
namespace Go.Proofs.Ytchhgbhbldfofaa.Hu
open Go.RowKit

theorem run_index_arr (c : Nat → Nat) (k : Nat) (hk : k < 16) (w : World) : (Instr.index 68 (.agg (arrC c)) (.int .i64 (k : Int))).run Try.prog w = .ok (iz (c k)) w := by
  have h1 : (0 : Int) ≤ (k : Int) ∧ (k : Int) < 16 := by omega
  have h2 := arrC_at c k hk
  have hz := Try.sizeOf3
  have ha := Try.isAgg3
  simp [Instr.index, run_underlying Try.underlying68, asIntOf, h1, part, hz, ha, h2, go_sem]
  intro h; omega
/-- how full lengths are: by numbers of two to the fifteenth -/
def kraF (c : Nat → Nat) : Nat → Nat
  | 0 => 0
  | k + 1 => kraF c k + c k * 2 ^ (15 - k)
def kra (l : List Int) : Nat := kraF (cntF l) 16
def stateN (l : List Int) : Int × Int := if badL l then (0, 2) else (cmpZ (kra l) 32768, 0)
theorem kraF_le (c : Nat → Nat) (m : Nat) (h : ∀ j, c j ≤ m) : ∀ k, kraF c k ≤ k * (m * 32768)
  | 0 => Nat.zero_le _
  | k + 1 => by
    rw [kraF, Nat.add_mul, Nat.one_mul]
    have h1 := kraF_le c m h k
    have h2 : 2 ^ (15 - k) ≤ 2 ^ 15 := Nat.pow_le_pow_right (by omega) (by omega)
    have h3 := Nat.mul_le_mul (h k) h2
    omega
theorem cntF_le (l : List Int) (j : Nat) : cntF l j ≤ l.length := by
  unfold cntF
  split
  · exact Nat.zero_le _
  · exact cntI_le l j
theorem zeros16_at (w : World) : (w.alloc (.cells #[.int .i64 0, .int .i64 0, .int .i64 0, .int .i64 0, .int .i64 0, .int .i64 0, .int .i64 0, .int .i64 0, .int .i64 0, .int .i64 0, .int .i64 0, .int .i64 0, .int .i64 0, .int .i64 0, .int .i64 0, .int .i64 0] 68)).heap[w.heap.size]? = some (.cells #[.int .i64 0, .int .i64 0, .int .i64 0, .int .i64 0, .int .i64 0, .int .i64 0, .int .i64 0, .int .i64 0, .int .i64 0, .int .i64 0, .int .i64 0, .int .i64 0, .int .i64 0, .int .i64 0, .int .i64 0, .int .i64 0] 68 (0, 0)) := heap_alloc_at _
set_option maxRecDepth 100000 in
set_option maxHeartbeats 8000000 in
theorem state_walk (v : Value) (l : List Int) (w : World) (hv : IntsAt w v l) (hl : l.length ≤ 1048576) :
    Calls Try.prog 11 #[v] w fun e w' => e = .returned (.tuple #[.int .i64 (stateN l).1, .int .i64 (stateN l).2]) ∧ Ext [] w w' := by
  cases hb : badL l
  · have e : stateN l = (cmpZ (kra l) 32768, 0) := by unfold stateN; rw [hb]; rfl
    rw [e]
    simp only
    have hl2 := (bad_false hb).1
    obtain ⟨R, hR⟩ : ∃ R, cmpZ (kra l) 32768 = R := ⟨_, rfl⟩
    rw [hR]
    unfold kra at hR
    have hcl := cntF_le l
    have hcc := counts_good v l w hv hb
    generalize cntF l = c at *
    have hle := kraF_le c 288 (fun j => by have := hcl j; omega)
    have HCC := Lib.hid hcc
    have HR := Lib.hid (show ∀ u : Nat, u = 16 → cmpZ (kraF c u) 32768 = R from fun u hu => by rw [hu]; exact hR)
    have HLE := Lib.hid (⟨hcl, hle⟩ : _ ∧ _)
    clear hcc hR hb e hcl hle
    go_enter Try.func11, Try.ntmps11
    go_wp2_with fail
    refine HCC.out.mono ?_
    clear HCC
    rintro e w1 ⟨rfl, hx1⟩
    have HX := Lib.hid hx1
    have hg := Lib.hid (zeros16_at w1)
    clear hx1
    go_wp2_with (first | (refine wpList_store_row rfl 68 _ _ rfl w1.heap.size (arrC c) rfl rfl 68 _ hg.out (info16c c) (by rw [arrC_size]; rfl) (arrC_one c) ?_) | (refine wpList_load_row rfl 68 _ rfl w1.heap.size rfl 68 (arrC c) (0, 0) _ (setRow_heap9 hg.out) Try.underlying68 rfl (info16c c) ?_))
    have hx2 := ext_setRow ((HX.out).alloc (.cells #[.int .i64 0, .int .i64 0, .int .i64 0, .int .i64 0, .int .i64 0, .int .i64 0, .int .i64 0, .int .i64 0, .int .i64 0, .int .i64 0, .int .i64 0, .int .i64 0, .int .i64 0, .int .i64 0, .int .i64 0, .int .i64 0] 68)) w1.heap.size (arrC c) (.inr HX.out.size)
    have HX2 := Lib.hid hx2
    obtain ⟨W, hW⟩ : ∃ W, (w1.alloc (.cells #[.int .i64 0, .int .i64 0, .int .i64 0, .int .i64 0, .int .i64 0, .int .i64 0, .int .i64 0, .int .i64 0, .int .i64 0, .int .i64 0, .int .i64 0, .int .i64 0, .int .i64 0, .int .i64 0, .int .i64 0, .int .i64 0] 68)).setRow w1.heap.size (arrC c) = W := ⟨_, rfl⟩
    rw [hW] at HX2
    rw [hW]
    clear hx2 hW
    go_loopg [6, 17] 16 (fun g sv iv wr => ∃ k : Nat, g + k = 16 ∧ iv = .int .i64 k ∧ sv = .int .i64 (kraF c k : Nat) ∧ W = wr)
    case atStart => exact ⟨0, by omega, rfl, rfl, rfl⟩
    case round =>
      obtain ⟨k, hk, rfl, rfl, rfl⟩ := hrel
      by_cases hlt : k < 16
      · have hix := run_index_arr c k hlt
        have hc9 : c k ≤ 288 := by have := HLE.out.1 k; omega
        have hp : 2 ^ (15 - k) ≤ 2 ^ 15 := Nat.pow_le_pow_right (by omega) (by omega)
        have hmul := Nat.mul_le_mul hc9 hp
        have hle : kraF c k ≤ 16 * (288 * 32768) := by
          have h := kraF_le c 288 (fun j => by have := HLE.out.1 j; omega) k
          exact Nat.le_trans h (Nat.mul_le_mul_right _ (by omega))
        have hst : kraF c (k + 1) = kraF c k + c k * 2 ^ (15 - k) := rfl
        obtain ⟨q, hq⟩ : ∃ q, 15 - k = q := ⟨_, rfl⟩
        rw [hq] at hst hmul hp
        have e1 : 15 - (k : Int) = (q : Int) := by omega
        have e2 : (c k : Int) * 2 ^ q = ((c k * 2 ^ q : Nat) : Int) := by push_cast; rfl
        have hq15 : q ≤ 15 := by omega
        obtain ⟨t, ht⟩ : ∃ t, c k * 2 ^ q = t := ⟨_, rfl⟩
        rw [ht] at hmul hst e2
        have ht9 : t ≤ 9437184 := by omega
        have HST := Lib.hid hst
        generalize kraF c k = s at *
        generalize c k = ck at *
        clear hst hp hmul ht hq
        go_wp2_with fail
        go_roundg (16 - (k + 1))
        case measure => omega
        case rel => exact ⟨k + 1, by omega, by go_num, by rw [HST.out]; push_cast; rfl, rfl⟩
      · obtain rfl : k = 16 := by omega
        go_wp2_with fail
        refine (cmp_walk _ _ _).mono ?_
        rintro e w5 ⟨rfl, rfl⟩
        go_wp2_with fail
        exact bodyPost_ret (results_tmp2 rfl _ _ _) rfl ⟨by rw [HR.out 16 rfl]; rfl, HX2.out⟩
  · have e : stateN l = (0, 2) := by unfold stateN; rw [hb]; rfl
    rw [e]
    simp only
    have HCC := Lib.hid (counts_bad v l w hv hl hb)
    clear hb e
    go_enter Try.func11, Try.ntmps11
    go_wp2_with fail
    refine HCC.out.mono ?_
    clear HCC
    rintro e w1 ⟨c, rfl, hx1⟩
    have HX := Lib.hid hx1
    have hg := Lib.hid (zeros16_at w1)
    clear hx1
    go_wp2_with (first | (refine wpList_store_row rfl 68 _ _ rfl w1.heap.size (arrC c) rfl rfl 68 _ hg.out (info16c c) (by rw [arrC_size]; rfl) (arrC_one c) ?_))
    have hx2 := ext_setRow ((HX.out).alloc (.cells #[.int .i64 0, .int .i64 0, .int .i64 0, .int .i64 0, .int .i64 0, .int .i64 0, .int .i64 0, .int .i64 0, .int .i64 0, .int .i64 0, .int .i64 0, .int .i64 0, .int .i64 0, .int .i64 0, .int .i64 0, .int .i64 0] 68)) w1.heap.size (arrC c) (.inr HX.out.size)
    exact bodyPost_ret (results_tmp2 rfl _ _ _) rfl ⟨rfl, hx2⟩
end Go.Proofs.Ytchhgbhbldfofaa.Hu
