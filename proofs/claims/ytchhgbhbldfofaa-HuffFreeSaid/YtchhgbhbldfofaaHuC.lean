/-
  container/heap over huff's nodes walked.
-/
import Derived.Test.YtchhgbhbldfofaaHuB
namespace Go.Proofs.Ytchhgbhbldfofaa.Hu
open Go.RowKit

/-- a heap in a variable: block lb holds the slice v -/
structure HpO (w : World) (lb : Nat) (v : Value) (N : List Nat) (H : List Pn) : Prop where
  var : w.heap[lb]? = some (.cells #[v] 91 (0, 0))
  row : HpR w v N H
  ne : v.ownBlock ≠ some lb
  nN : lb ∉ N
theorem HpO.ext {S N : List Nat} {w w' : World} {lb : Nat} {v : Value} {H : List Pn} (h : HpO w lb v N H) (hx : Ext S w w') (hl : lb ∉ S) (hv : ∀ g, v.ownBlock = some g → g ∉ S) (hN : ∀ k ∈ N, k ∉ S) : HpO w' lb v N H :=
  ⟨hx.keep h.var hl, h.row.ext hx hv hN, h.ne, h.nN⟩
theorem HpO.quiet {N : List Nat} {w w' : World} {lb : Nat} {v : Value} {H : List Pn} (h : HpO w lb v N H) (hx : Ext [] w w') : HpO w' lb v N H := h.ext hx (by simp) (by simp) (by simp)
theorem HpO.turn {N : List Nat} {w w' : World} {lb : Nat} {v : Value} {H H' : List Pn} (h : HpO w lb v N H) (hx : Ext v.ownBlock.toList w w') (hr : HpR w' v N H') : HpO w' lb v N H' :=
  ⟨hx.keep h.var (fun hm => h.ne (by simpa using hm)), hr, h.ne, h.nN⟩
theorem HpO.slice {N : List Nat} {w : World} {lb : Nat} {v : Value} {H : List Pn} (h : HpO w lb v N H) : ∃ ao cap, v = .slice ao H.length cap := by
  rcases h.row.own.2 with ⟨h0, hn⟩ | ⟨g, cap, cs, h0, _⟩
  · exact ⟨none, 0, by rw [h0, hn]⟩
  · exact ⟨_, cap, h0⟩
theorem downF_stop {E : Type} [Inhabited E] (lt : E → E → Bool) (n f i : Nat) (H : List E) (h : n ≤ 2 * i + 1) : downF lt f H i n = H := by
  cases f
  · rfl
  · rw [downF, if_pos h]
set_option maxRecDepth 100000 in
set_option maxHeartbeats 8000000 in
theorem down_walk (lb : Nat) (v : Value) (N : List Nat) (H : List Pn) (i0 n : Nat) (w : World) (hO : HpO w lb v N H) (hi : i0 ≤ n) (hn : n ≤ H.length) (hz : H.length ≤ 1048576) :
    Calls Try.prog 58 #[.iface 96 (ptr lb), .int .i64 i0, .int .i64 n] w fun e w' => ∃ b, e = .returned (.bool b) ∧ Ext v.ownBlock.toList w w' ∧ HpO w' lb v N (downF pnLt n H i0 n) := by
  obtain ⟨R, hR⟩ : ∃ R, downF pnLt n H i0 n = R := ⟨_, rfl⟩
  rw [hR]
  have HR := Lib.hid hR
  have HO := Lib.hid hO
  clear hR hO
  go_enter Try.func58, Try.ntmps58
  go_wp2_with fail
  go_loopg [7] n (fun g iv wr => ∃ (i : Nat) (H' : List Pn), iv = .int .i64 i ∧ n ≤ i + g ∧ i ≤ n ∧ (i < n ∨ g = n) ∧ H'.length = H.length ∧ downF pnLt g H' i n = R ∧ Ext v.ownBlock.toList w wr ∧ HpO wr lb v N H')
  case atStart => exact ⟨i0, H, rfl, by omega, hi, .inr rfl, rfl, HR.out, Ext.refl _ _, HO.out⟩
  case round =>
    clear HO HR
    obtain ⟨i, H', rfl, hg, hin, _, hl, hR, hx, hO⟩ := hrel
    have HO := Lib.hid (⟨hx, hO⟩ : _ ∧ _)
    have m1 := m_less (cellOf hO.var 0)
    clear hx hO
    obtain ⟨j1, hj1⟩ : ∃ j1, 2 * i + 1 = j1 := ⟨_, rfl⟩
    obtain ⟨j2, hj2⟩ : ∃ j2, 2 * i + 2 = j2 := ⟨_, rfl⟩
    have e1 : 2 * (i : Int) + 1 = (j1 : Int) := by omega
    have e2 : (j1 : Int) + 1 = (j2 : Int) := by omega
    have b1 : i < j1 := by omega
    have b2 : j2 ≤ 2097155 := by omega
    have b3 : j1 < j2 := by omega
    by_cases h1 : n ≤ j1
    · rw [downF_stop pnLt n gk i H' (by omega)] at hR
      subst hR
      have q1 : (n : Int) ≤ (j1 : Int) := by omega
      clear hj1 hj2
      go_wp2_with fail
      go_ret
      exact ⟨_, rfl, HO.out.1, HO.out.2⟩
    · obtain ⟨g', rfl⟩ : ∃ g', gk = g' + 1 := ⟨gk - 1, by omega⟩
      rw [downF, if_neg (by omega), hj1, hj2] at hR
      have q1 : (j1 : Int) < (n : Int) := by omega
      have q1' : (0 : Int) ≤ (j1 : Int) := by omega
      by_cases h2 : j2 < n
      · have q2 : (j2 : Int) < (n : Int) := by omega
        have HR := Lib.hid hR
        clear hR hj1 hj2
        go_wp2_with fail
        refine (less_walk v N H' j2 j1 wr (HO.out.2).row (by omega) (by omega)).mono ?_
        rintro e w5 ⟨rfl, hx9⟩
        have HO := Lib.hid (⟨HO.out.1.trans hx9.weak, HO.out.2.quiet hx9⟩ : _ ∧ _)
        have m2 := m_less (cellOf HO.out.2.var 0)
        clear hx9 m1
        cases hb : pnLt (at_ H' j2) (at_ H' j1)
        · have hR := HR.out
          rw [hb] at hR
          simp only [h2, Bool.false_eq_true, and_false, if_false] at hR
          have HR := Lib.hid hR
          clear hb hR
          go_wp2_with fail
          refine (less_walk v N H' j1 i w5 (HO.out.2).row (by omega) (by omega)).mono ?_
          rintro e w6 ⟨rfl, hx9⟩
          have HO := Lib.hid (⟨HO.out.1.trans hx9.weak, HO.out.2.quiet hx9⟩ : _ ∧ _)
          have m3 := m_swap (cellOf HO.out.2.var 0)
          clear hx9 m2
          cases hb2 : pnLt (at_ H' j1) (at_ H' i)
          · have hR := HR.out
            rw [hb2, if_neg (by simp)] at hR
            subst hR
            clear hb2
            go_wp2_with fail
            go_ret
            exact ⟨_, rfl, HO.out.1, HO.out.2⟩
          · have hR := HR.out
            rw [hb2, if_pos rfl] at hR
            have HR := Lib.hid hR
            clear hb2 hR
            go_wp2_with fail
            refine (swap_walk v N H' i j1 w6 (HO.out.2).row (by omega) (by omega)).mono ?_
            rintro e w8 ⟨rfl, hx9, hr9⟩
            have HO := Lib.hid (⟨HO.out.1.trans hx9, HO.out.2.turn hx9 hr9⟩ : _ ∧ _)
            clear hx9 hr9 m3
            go_wp2_with fail
            go_roundg g'
            case measure => omega
            case rel => exact ⟨j1, swp H' i j1, rfl, by omega, by omega, by omega, by rw [swp_len]; exact hl, HR.out, HO.out.1, HO.out.2⟩
        · have hR := HR.out
          rw [hb] at hR
          simp only [h2, and_self, if_true] at hR
          have HR := Lib.hid hR
          clear hb hR
          go_wp2_with fail
          refine (less_walk v N H' j2 i w5 (HO.out.2).row (by omega) (by omega)).mono ?_
          rintro e w6 ⟨rfl, hx9⟩
          have HO := Lib.hid (⟨HO.out.1.trans hx9.weak, HO.out.2.quiet hx9⟩ : _ ∧ _)
          have m3 := m_swap (cellOf HO.out.2.var 0)
          clear hx9 m2
          cases hb2 : pnLt (at_ H' j2) (at_ H' i)
          · have hR := HR.out
            rw [hb2, if_neg (by simp)] at hR
            subst hR
            clear hb2
            go_wp2_with fail
            go_ret
            exact ⟨_, rfl, HO.out.1, HO.out.2⟩
          · have hR := HR.out
            rw [hb2, if_pos rfl] at hR
            have HR := Lib.hid hR
            clear hb2 hR
            go_wp2_with fail
            refine (swap_walk v N H' i j2 w6 (HO.out.2).row (by omega) (by omega)).mono ?_
            rintro e w8 ⟨rfl, hx9, hr9⟩
            have HO := Lib.hid (⟨HO.out.1.trans hx9, HO.out.2.turn hx9 hr9⟩ : _ ∧ _)
            clear hx9 hr9 m3
            go_wp2_with fail
            go_roundg g'
            case measure => omega
            case rel => exact ⟨j2, swp H' i j2, rfl, by omega, by omega, by omega, by rw [swp_len]; exact hl, HR.out, HO.out.1, HO.out.2⟩
      · have q2 : (n : Int) ≤ (j2 : Int) := by omega
        have q2' : decide ((j2 : Int) < (n : Int)) = false := decide_eq_false (by omega)
        simp only [h2, false_and, if_false] at hR
        have HR := Lib.hid hR
        clear hR hj1 hj2
        go_wp2_with fail
        refine (less_walk v N H' j1 i wr (HO.out.2).row (by omega) (by omega)).mono ?_
        rintro e w6 ⟨rfl, hx9⟩
        have HO := Lib.hid (⟨HO.out.1.trans hx9.weak, HO.out.2.quiet hx9⟩ : _ ∧ _)
        have m3 := m_swap (cellOf HO.out.2.var 0)
        clear hx9 m1
        cases hb2 : pnLt (at_ H' j1) (at_ H' i)
        · have hR := HR.out
          rw [hb2, if_neg (by simp)] at hR
          subst hR
          clear hb2
          go_wp2_with fail
          go_ret
          exact ⟨_, rfl, HO.out.1, HO.out.2⟩
        · have hR := HR.out
          rw [hb2, if_pos rfl] at hR
          have HR := Lib.hid hR
          clear hb2 hR
          go_wp2_with fail
          refine (swap_walk v N H' i j1 w6 (HO.out.2).row (by omega) (by omega)).mono ?_
          rintro e w8 ⟨rfl, hx9, hr9⟩
          have HO := Lib.hid (⟨HO.out.1.trans hx9, HO.out.2.turn hx9 hr9⟩ : _ ∧ _)
          clear hx9 hr9 m3
          go_wp2_with fail
          go_roundg g'
          case measure => omega
          case rel => exact ⟨j1, swp H' i j1, rfl, by omega, by omega, by omega, by rw [swp_len]; exact hl, HR.out, HO.out.1, HO.out.2⟩
set_option maxRecDepth 100000 in
set_option maxHeartbeats 8000000 in
theorem up_walk (lb : Nat) (v : Value) (N : List Nat) (H : List Pn) (j0 : Nat) (w : World) (hO : HpO w lb v N H) (hj : j0 < H.length) (hz : H.length ≤ 1048576) :
    Calls Try.prog 59 #[.iface 96 (ptr lb), .int .i64 j0] w fun e w' => e = .returned (.tuple #[]) ∧ Ext v.ownBlock.toList w w' ∧ HpO w' lb v N (upF pnLt (j0 + 1) H j0) := by
  obtain ⟨R, hR⟩ : ∃ R, upF pnLt (j0 + 1) H j0 = R := ⟨_, rfl⟩
  rw [hR]
  have HR := Lib.hid hR
  have HO := Lib.hid hO
  clear hR hO
  go_enter Try.func59, Try.ntmps59
  go_wp2_with fail
  go_loopg [1] (j0 + 1) (fun g iv wr => ∃ (j : Nat) (H' : List Pn), iv = .int .i64 j ∧ j < g ∧ j < H.length ∧ H'.length = H.length ∧ upF pnLt g H' j = R ∧ Ext v.ownBlock.toList w wr ∧ HpO wr lb v N H')
  case atStart => exact ⟨j0, H, rfl, by omega, hj, rfl, HR.out, Ext.refl _ _, HO.out⟩
  case round =>
    clear HO HR
    obtain ⟨j, H', rfl, hg, hin, hl, hR, hx, hO⟩ := hrel
    have HO := Lib.hid (⟨hx, hO⟩ : _ ∧ _)
    have m1 := m_less (cellOf hO.var 0)
    clear hx hO
    obtain ⟨g', rfl⟩ : ∃ g', gk = g' + 1 := ⟨gk - 1, by omega⟩
    by_cases h0 : j = 0
    · subst h0
      rw [upF, if_pos rfl] at hR
      subst hR
      go_wp2_with fail
      go_end0
      exact ⟨rfl, HO.out.1, HO.out.2⟩
    · obtain ⟨i, hi⟩ : ∃ i, (j - 1) / 2 = i := ⟨_, rfl⟩
      have e1 : ((j : Int) - 1) / 2 = (i : Int) := by omega
      have e3 : 0 ≤ (j : Int) - 1 := by omega
      have hij : i < j := by omega
      have hij' : ((i : Int) == (j : Int)) = false := beq_eq_false_iff_ne.2 (by omega)
      rw [upF, if_neg (by omega), hi] at hR
      have HR := Lib.hid hR
      clear hR hi
      go_wp2_with fail
      refine (less_walk v N H' j i wr (HO.out.2).row (by omega) (by omega)).mono ?_
      rintro e w5 ⟨rfl, hx9⟩
      have HO := Lib.hid (⟨HO.out.1.trans hx9.weak, HO.out.2.quiet hx9⟩ : _ ∧ _)
      have m2 := m_swap (cellOf HO.out.2.var 0)
      clear hx9 m1
      cases hb : pnLt (at_ H' j) (at_ H' i)
      · have hR := HR.out
        rw [hb, if_neg (by simp)] at hR
        subst hR
        clear hb
        go_wp2_with fail
        go_end0
        exact ⟨rfl, HO.out.1, HO.out.2⟩
      · have hR := HR.out
        rw [hb, if_pos rfl] at hR
        have HR := Lib.hid hR
        clear hb hR
        go_wp2_with fail
        refine (swap_walk v N H' i j w5 (HO.out.2).row (by omega) (by omega)).mono ?_
        rintro e w8 ⟨rfl, hx9, hr9⟩
        have HO := Lib.hid (⟨HO.out.1.trans hx9, HO.out.2.turn hx9 hr9⟩ : _ ∧ _)
        clear hx9 hr9 m2
        go_wp2_with fail
        go_roundg g'
        case measure => omega
        case rel => exact ⟨i, swp H' i j, rfl, by omega, by omega, by rw [swp_len]; exact hl, HR.out, HO.out.1, HO.out.2⟩
set_option maxRecDepth 100000 in
set_option maxHeartbeats 8000000 in
theorem init_walk (lb : Nat) (v : Value) (N : List Nat) (H : List Pn) (w : World) (hO : HpO w lb v N H) (hz : H.length ≤ 1048576) :
    Calls Try.prog 49 #[.iface 96 (ptr lb)] w fun e w' => e = .returned (.tuple #[]) ∧ Ext v.ownBlock.toList w w' ∧ HpO w' lb v N (initF pnLt H.length (H.length / 2) H) := by
  obtain ⟨R, hR⟩ : ∃ R, initF pnLt H.length (H.length / 2) H = R := ⟨_, rfl⟩
  rw [hR]
  obtain ⟨ao, cap, rfl⟩ := hO.slice
  have m1 := m_len (cellOf hO.var 0)
  obtain ⟨n, hn⟩ : ∃ n, H.length = n := ⟨_, rfl⟩
  rw [hn] at hR hz hO m1 ⊢
  obtain ⟨k, hk⟩ : ∃ k, n / 2 = k := ⟨_, rfl⟩
  rw [hk] at hR
  have e1 : (n : Int) / 2 = (k : Int) := by omega
  have hk9 : k ≤ 1048576 := by omega
  have HK := Lib.hid hk
  have HN := Lib.hid hn
  have HR := Lib.hid hR
  have HO := Lib.hid hO
  clear hR hO hk hn
  go_enter Try.func49, Try.ntmps49
  go_wp2_with fail
  refine (len_walk ao n cap w).mono ?_
  rintro e w1 ⟨rfl, rfl⟩
  go_wp2_with fail
  clear m1 e1
  go_loopg [3] k (fun g iv wr => ∃ H' : List Pn, iv = .int .i64 ((g : Int) - 1) ∧ g ≤ k ∧ H'.length = n ∧ initF pnLt n g H' = R ∧ Ext (Value.slice ao n cap).ownBlock.toList w wr ∧ HpO wr lb (.slice ao n cap) N H')
  case atStart => exact ⟨H, rfl, by omega, HN.out, HR.out, Ext.refl _ _, HO.out⟩
  case round =>
    clear HO HR HN
    obtain ⟨H', rfl, hgk, hl, hR, hx, hO⟩ := hrel
    have HO := Lib.hid (⟨hx, hO⟩ : _ ∧ _)
    have HL := Lib.hid hl
    clear hx hO hl
    cases gk with
    | zero =>
      have hR' : H' = R := hR
      subst hR'
      clear hR
      go_wp2_with fail
      go_end0
      exact ⟨rfl, HO.out.1, HO.out.2⟩
    | succ g' =>
      rw [initF] at hR
      have HR := Lib.hid hR
      clear hR
      have e1 : (((g' + 1 : Nat) : Int)) - 1 = (g' : Int) := by omega
      have E1 := Lib.hid e1
      rw [e1]
      have b1 : (g' : Int) ≤ 1048576 := by omega
      have b2 : (0 : Int) ≤ (g' : Int) := by omega
      clear e1
      go_wp2_with fail
      refine (down_walk lb (.slice ao n cap) N H' g' n _ HO.out.2 (by have := HK.out; omega) (by have := HL.out; omega) (by have := HL.out; omega)).mono ?_
      rintro e w5 ⟨bb, rfl, hx9, ho9⟩
      have HO := Lib.hid (⟨HO.out.1.trans hx9, ho9⟩ : _ ∧ _)
      clear hx9 ho9
      go_wp2_with fail
      go_roundg g'
      case measure => omega
      case rel => exact ⟨downF pnLt n H' g' n, rfl, by omega, by rw [downF_len]; exact HL.out, HR.out, HO.out.1, HO.out.2⟩
end Go.Proofs.Ytchhgbhbldfofaa.Hu
