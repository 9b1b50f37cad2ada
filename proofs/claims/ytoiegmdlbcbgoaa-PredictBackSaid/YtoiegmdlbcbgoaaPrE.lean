/-
  predict: weight, the least way: walked.
-/
import Derived.Test.YtoiegmdlbcbgoaaPrD
namespace Go.Proofs.Ytoiegmdlbcbgoaa.Pr
open Go.RowKit

def wt (b : UInt8) : Nat := min b.toNat (256 - b.toNat)
def wS (L : Nat → UInt8) : Nat → Nat
  | 0 => 0
  | k + 1 => wS L k + wt (L k)
theorem wS_le (L : Nat → UInt8) : ∀ k, wS L k ≤ 128 * k
  | 0 => Nat.le_refl _
  | k + 1 => by have := wS_le L k; unfold wS wt; omega
set_option maxRecDepth 100000 in
set_option maxHeartbeats 8000000 in
theorem weight_walk (L : Nat → UInt8) (g o n c : Nat) (w : World) (hL : ∀ j, j < n → w.cell? ⟨g, o + j, none⟩ = some (c8 (L j))) (hn : n ≤ 1048576) :
    Calls Try.prog 27 #[.slice (some ⟨g, o, none⟩) n c] w fun e w' => e = .returned (.int .i64 (wS L n : Nat)) ∧ Ext [] w w' := by
  have HL := Lib.hid hL
  clear hL
  go_enter Try.func27, Try.ntmps27
  go_wp2_with fail
  go_loopg [3, 5, 8] n (fun gg sv _ iv wr => ∃ k : Nat, gg + k = n ∧ iv = .int .i64 k ∧ sv = .int .i64 (wS L k : Nat) ∧ Ext [] w wr)
  case atStart => exact ⟨0, by omega, rfl, rfl, Ext.refl _ _⟩
  case round =>
    obtain ⟨k, hk, rfl, rfl, hx⟩ := hrel
    have HX := Lib.hid hx
    by_cases hlt : k < n
    · have q1 := Ext.cell hx (HL.out k hlt)
      unfold c8 at q1
      have i1 : (0 : Int) ≤ (k : Int) := by omega
      have i2 : (k : Int) < (n : Int) := by omega
      have hle := wS_le L k
      have hnx : wS L (k + 1) = wS L k + wt (L k) := rfl
      have h8 := (L k).toNat_lt
      have hwt : wt (L k) = min (L k).toNat (256 - (L k).toNat) := rfl
      generalize L k = b at *
      generalize wt b = x at *
      generalize wS L k = s at *
      obtain ⟨s', hs'⟩ : ∃ s', wS L (k + 1) = s' := ⟨_, rfl⟩
      rw [hs'] at hnx
      have hm : (if 256 - (b.toNat : Int) < (b.toNat : Int) then 256 - (b.toNat : Int) else (b.toNat : Int)) = (x : Int) := by rw [hwt]; split <;> omega
      have hx128 : x ≤ 128 := by omega
      have hse : (s : Int) + (x : Int) = (s' : Int) := by omega
      have HN := Lib.hid hnx
      have HW := Lib.hid hwt
      have HS := Lib.hid hs'
      clear hnx hwt hs' hx
      go_wp2_with fail
      go_roundg (n - (k + 1))
      case measure => omega
      case rel => exact ⟨k + 1, by omega, by go_num, by rw [HS.out], HX.out⟩
    · obtain rfl : k = n := by omega
      clear hx
      go_wp2_with fail
      go_ret
      exact ⟨rfl, HX.out⟩

/-! ### the way -/
def weightL (l : List UInt8) : Nat := wS (fun j => l.getD j 0) l.length
def leastK (W : Nat → Nat) : Nat → Nat
  | 0 => 0
  | k + 1 => if W (k + 1) < W (leastK W k) then k + 1 else leastK W k
theorem leastK_le (W : Nat → Nat) : ∀ k, leastK W k ≤ k
  | 0 => Nat.le_refl _
  | k + 1 => by have := leastK_le W k; unfold leastK; split <;> omega
def wayV (p bs : Nat) (R U : Nat → UInt8) (n : Nat) : Nat := if p < 15 then p - 10 else leastK (fun x => weightL (putR x bs R U n)) 4
theorem wayV_lt (p bs : Nat) (R U : Nat → UInt8) (n : Nat) (h : p ≤ 15) : wayV p bs R U n < 5 := by
  unfold wayV
  split
  · omega
  · have := leastK_le (fun x => weightL (putR x bs R U n)) 4; omega
section
variable (bs n : Nat) (R U : Nat → UInt8) (cb rb ro rc ab ao ac : Nat)
theorem weigh_walk (way : Nat) (hw5 : way < 5) (w : World) (hc : w.heap[cb]? = some (coderO bs n ab ao ac))
    (hR : ∀ j, j < n → w.cell? ⟨rb, ro + j, none⟩ = some (c8 (R j))) (hU : ∀ j, j < n → w.cell? ⟨ab, ao + j, none⟩ = some (c8 (U j))) (hn : n ≤ 1048576) (hbs : 1 ≤ bs) :
    Calls Try.prog 21 #[.pointer (some ⟨cb, 0, none⟩), .int .u8 way, .slice (some ⟨rb, ro, none⟩) n rc] w fun e w' => ∃ g, e = .returned (.slice (some ⟨g, 0, none⟩) n n) ∧ Ext [] w w' ∧
      ∀ w2, Ext [] w' w2 → Calls Try.prog 27 #[.slice (some ⟨g, 0, none⟩) n n] w2 fun e w' => e = .returned (.int .i64 (weightL (putR way bs R U n) : Nat)) ∧ Ext [] w2 w' :=
  (cput_walk way hw5 bs n R U cb rb ro rc ab ao ac w hc hR hU hn hbs).mono fun _ _ ⟨g, he, S⟩ => ⟨g, he, S.ext, fun w2 hx => by
    have h := weight_walk (fun j => (putR way bs R U n).getD j 0) g 0 n n w2 (fun j hj => by
      rw [Nat.zero_add]
      have := ownsRow_at (i := j) (u := c8 ((putR way bs R U n).getD j 0)) (S.get 0 rfl) (by
        have hj' : j < (putR way bs R U n).length := by rw [putR_len]; exact hj
        rw [List.getElem?_map, List.getElem?_eq_getElem hj', List.getD_eq_getElem?_getD, List.getElem?_eq_getElem hj']
        rfl)
      exact Ext.cell hx this) hn
    have e : wS (fun j => (putR way bs R U n).getD j 0) n = weightL (putR way bs R U n) := by unfold weightL; rw [putR_len]
    rw [e] at h
    exact h⟩
set_option maxRecDepth 100000 in
set_option maxHeartbeats 8000000 in
theorem way_walk (p : Nat) (hp : 10 ≤ p) (hp2 : p ≤ 15) (w : World) (hc : w.heap[cb]? = some (coderO bs n ab ao ac))
    (hR : ∀ j, j < n → w.cell? ⟨rb, ro + j, none⟩ = some (c8 (R j))) (hU : ∀ j, j < n → w.cell? ⟨ab, ao + j, none⟩ = some (c8 (U j))) (hn : n ≤ 1048576) (hbs : 1 ≤ bs) :
    Calls Try.prog 20 #[.pointer (some ⟨cb, 0, none⟩), .int .i64 p, .slice (some ⟨rb, ro, none⟩) n rc] w fun e w' => e = .returned (.int .u8 (wayV p bs R U n : Nat)) ∧ Ext [] w w' := by
  by_cases h15 : p < 15
  · have hv : wayV p bs R U n = p - 10 := if_pos h15
    rw [hv]
    have he : ((p - 10 : Nat) : Int) = (p : Int) - 10 := by omega
    rw [he]
    clear hv he
    have k1 : (p : Int) < 15 := by omega
    go_enter Try.func20, Try.ntmps20
    go_wp2_with fail
    go_ret
    exact ⟨rfl, Ext.refl _ _⟩
  · have hv : wayV p bs R U n = leastK (fun x => weightL (putR x bs R U n)) 4 := if_neg h15
    obtain ⟨W, hW⟩ : ∃ W, W = fun x => weightL (putR x bs R U n) := ⟨_, rfl⟩
    rw [hv, ← hW]
    have k1 : ¬ (p : Int) < 15 := by omega
    have key : ∀ way, way < 5 → ∀ w2, Ext [] w w2 → Calls Try.prog 21 #[.pointer (some ⟨cb, 0, none⟩), .int .u8 ((way : Nat) : Int), .slice (some ⟨rb, ro, none⟩) n rc] w2 fun e w' => ∃ g, e = .returned (.slice (some ⟨g, 0, none⟩) n n) ∧ Ext [] w2 w' ∧
      ∀ w3, Ext [] w' w3 → Calls Try.prog 27 #[.slice (some ⟨g, 0, none⟩) n n] w3 fun e w' => e = .returned (.int .i64 (W way : Nat)) ∧ Ext [] w3 w' := fun way hw w2 hx => by
        subst hW
        exact weigh_walk bs n R U cb rb ro rc ab ao ac way hw w2 (hx.keep hc (by simp)) (fun j hj => Ext.cell hx (hR j hj)) (fun j hj => Ext.cell hx (hU j hj)) hn hbs
    have KEY := Lib.hid key
    clear key hR hU hc hv hW
    go_enter Try.func20, Try.ntmps20
    go_wp2_with fail
    go_loopg [7, 8] 4 (fun gg lv wv wr => ∃ k : Nat, gg + k = 4 ∧ wv = .int .u8 ((k : Int) + 1) ∧ lv = .int .u8 (leastK W k : Nat) ∧ Ext [] w wr)
    case atStart => exact ⟨0, by omega, rfl, rfl, Ext.refl _ _⟩
    case round =>
      obtain ⟨k, hk, rfl, rfl, hx⟩ := hrel
      have HX := Lib.hid hx
      clear hx
      by_cases hlt : k < 4
      · have hll := leastK_le W k
        have hnx : leastK W (k + 1) = if W (k + 1) < W (leastK W k) then k + 1 else leastK W k := rfl
        generalize leastK W k = l at *
        have HN := Lib.hid hnx
        clear hnx
        have k2 : (k : Int) + 1 < 5 := by omega
        have h1 := KEY.out (k + 1) (by omega) _ HX.out
        rw [show ((k + 1 : Nat) : Int) = (k : Int) + 1 by omega] at h1
        have H1 := Lib.hid h1
        clear h1
        go_wp2_with fail
        refine H1.out.mono ?_
        clear H1
        rintro e w2 ⟨g1, rfl, hx2, hw1⟩
        have HX2 := Lib.hid (HX.out.trans hx2)
        have HW1 := Lib.hid hw1
        clear hx2 hw1 HX
        go_wp2_with fail
        refine (HW1.out _ (Ext.refl _ _)).mono ?_
        clear HW1
        rintro e w3 ⟨rfl, hx3⟩
        have HX3 := Lib.hid (HX2.out.trans hx3)
        clear hx3 HX2
        go_wp2_with fail
        refine (KEY.out l (by omega) _ HX3.out).mono ?_
        rintro e w4 ⟨g2, rfl, hx4, hw4⟩
        have HX4 := Lib.hid (HX3.out.trans hx4)
        have HW4 := Lib.hid hw4
        clear hx4 hw4 HX3
        go_wp2_with fail
        refine (HW4.out _ (Ext.refl _ _)).mono ?_
        clear HW4
        rintro e w5 ⟨rfl, hx5⟩
        have HX5 := Lib.hid (HX4.out.trans hx5)
        clear hx5 HX4
        by_cases h2 : W (k + 1) < W l
        · have hn2 := HN.out
          rw [if_pos h2] at hn2
          have HN2 := Lib.hid hn2
          clear hn2 HN
          generalize W (k + 1) = x at *
          generalize W l = y at *
          go_wp2_with fail
          go_roundg (4 - (k + 1))
          case measure => omega
          case rel => exact ⟨k + 1, by omega, by go_num, by rw [HN2.out]; go_num, HX5.out⟩
        · have hn2 := HN.out
          rw [if_neg h2] at hn2
          have HN2 := Lib.hid hn2
          clear hn2 HN
          generalize W (k + 1) = x at *
          generalize W l = y at *
          go_wp2_with fail
          go_roundg (4 - (k + 1))
          case measure => omega
          case rel => exact ⟨k + 1, by omega, by go_num, by rw [HN2.out], HX5.out⟩
      · obtain rfl : k = 4 := by omega
        go_wp2_with fail
        go_ret
        exact ⟨rfl, HX.out⟩
end
end Go.Proofs.Ytoiegmdlbcbgoaa.Pr
