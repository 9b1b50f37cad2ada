/-
  The document's nodes: plain, kind by kind.
-/
import Derived.Test.YtgpgamohcafklaaGreatDoorTtT
import Derived.Test.YtgpgamohcafklaaGreatDoorPkU
namespace Go.Proofs.YtgpgamohcafklaaGreatDoor.Tr
open Go.RowKit

theorem idx_ge : ∀ l : List UInt8, -1 ≤ Lib.indexByte l 0
  | [] => by simp [Lib.indexByte]
  | y :: l => by
    have := idx_ge l
    rw [Lib.indexByte]
    split
    · omega
    · split <;> omega
theorem idx0 : ∀ l : List UInt8, (0 ≤ Lib.indexByte l 0) ↔ l.any (fun x => decide (x.toNat = 0)) = true
  | [] => by simp [Lib.indexByte]
  | x :: l => by
    have ih := idx0 l
    rw [Lib.indexByte, List.any_cons]
    by_cases hx : x = 0
    · subst hx; simp
    · have h1 : (x == 0) = false := beq_eq_false_iff_ne.2 hx
      have h2 : ¬ x.toNat = 0 := fun e => hx (UInt8.toNat_inj.1 (by rw [e]; rfl))
      rw [h1, decide_eq_false h2, Bool.false_or, ← ih]
      have hm := idx_ge l
      by_cases hz : Lib.indexByte l 0 = -1
      · simp [hz]
      · have hb : (Lib.indexByte l 0 == -1) = false := beq_eq_false_iff_ne.2 hz
        simp only [hb]
        simp
        omega
set_option maxRecDepth 100000 in
set_option maxHeartbeats 2000000 in
theorem name03_walk (s : ByteArray) (w : World) : Calls Tryz.prog 27 #[.string s] w fun e w' => e = .returned (.int .i64 (nameN s)) ∧ Ext [] w w' := by
  by_cases q1 : 127 < s.size
  · have q1z : (127 : Int) < (s.size : Int) := by omega
    have hR : nameN s = 3 := if_pos q1
    rw [hR]
    clear hR
    go_enter Tryz.func27, Tryz.ntmps27
    go_wp2_with fail
    go_ret
    exact ⟨rfl, Ext.refl _ _⟩
  have q1z : ¬ (127 : Int) < (s.size : Int) := by omega
  have hR : nameN s = if (Nu.B s).any (fun x => decide (x.toNat = 0)) then 2 else 0 := by
    rw [nameN, if_neg q1]
    have := idx0 (Nu.B s)
    by_cases h : 0 ≤ Lib.indexByte s.data.toList 0
    · rw [if_pos h, if_pos (this.1 h)]
    · rw [if_neg h, if_neg (fun h2 => h (this.2 h2))]
  obtain ⟨R, hRR⟩ : ∃ R, nameN s = R := ⟨_, rfl⟩
  rw [hRR] at hR ⊢
  have HR := Lib.hid hR.symm
  clear hR hRR
  have hs9 : s.size ≤ 127 := by omega
  go_enter Tryz.func27, Tryz.ntmps27
  go_wp2_with fail
  go_loopg [3] s.size (fun g iv wr => ∃ k : Nat, g + k = s.size ∧ iv = .int .i64 k ∧ (if ((Nu.B s).drop k).any (fun x => decide (x.toNat = 0)) then (2 : Int) else 0) = R ∧ w = wr)
  case atStart => exact ⟨0, by omega, rfl, HR.out, rfl⟩
  case round =>
    obtain ⟨k, hgk, rfl, hd, rfl⟩ := hrel
    by_cases hlt : k < s.size
    · obtain ⟨g, rfl⟩ : ∃ g, gk = g + 1 := ⟨gk - 1, by omega⟩
      have hltz : (k : Int) < (s.size : Int) := by omega
      rw [Nu.B_at s k hlt, List.any_cons] at hd
      by_cases h0 : (s[k]'hlt).toNat = 0
      · rw [decide_eq_true h0, Bool.true_or, if_pos rfl] at hd
        subst hd
        clear HR
        go_wp2_with fail
        go_ret
        exact ⟨rfl, Ext.refl _ _⟩
      · rw [decide_eq_false h0, Bool.false_or] at hd
        have HD := Lib.hid hd
        obtain ⟨x, hx⟩ : ∃ x, (s[k]'hlt).toNat = x := ⟨_, rfl⟩
        have hxb : ((x : Int) == 0) = false := beq_eq_false_iff_ne.2 (by rw [hx] at h0; omega)
        clear hd h0
        go_wp2_with fail
        go_roundg g
        case measure => omega
        case rel => exact ⟨k + 1, by omega, by go_num, HD.out, rfl⟩
    · obtain rfl : k = s.size := by omega
      rw [List.drop_of_length_le (by rw [Nu.B_len]; exact Nat.le_refl _)] at hd
      obtain rfl : (0 : Int) = R := hd
      clear HR
      go_wp2_with fail
      go_ret
      exact ⟨rfl, Ext.refl _ _⟩
set_option maxRecDepth 100000 in
set_option maxHeartbeats 8000000 in
theorem plain_1 (n gen : Int) (s : ByteArray) (L : List Int) (base : Option Addr) (cap : Nat) (w : World) :
    Calls Tryz.prog 38 #[.agg #[.int .i64 1, .int .i64 n, .int .i64 gen, .string s, .slice base L.length cap]] w fun e w' => e = .returned (.bool (bareN ⟨1, n, gen, s, L⟩)) ∧ Ext [] w w' := by
  by_cases c1 : 0 < L.length
  · have c1z : (0 : Int) < (L.length : Int) := by omega
    have hR : bareN ⟨1, n, gen, s, L⟩ = false := by simp [bareN, c1]
    rw [hR]
    clear hR
    go_enter Tryz.func38, Tryz.ntmps38
    go_upto_region 1 with (fail)
    go_quiet (fail)
    go_wp2_with fail
    all_goals first | (exfalso; omega) | (go_ret; exact ⟨rfl, ((Ext.refl [] w).alloc _).drewN _⟩)
  have c1z : ¬ (0 : Int) < (L.length : Int) := by omega
  by_cases c2 : s = ⟨#[]⟩
  case neg =>
    have c2b : s.toList.isEmpty = false := some_bytes c2
    have hR : bareN ⟨1, n, gen, s, L⟩ = false := by simp [bareN, c1, c2]
    rw [hR]
    clear hR
    go_enter Tryz.func38, Tryz.ntmps38
    go_upto_region 1 with (fail)
    go_quiet (fail)
    go_wp2_with fail
    all_goals first | (exfalso; omega) | (go_ret; exact ⟨rfl, ((Ext.refl [] w).alloc _).drewN _⟩)
  subst c2
  by_cases c3 : n = 0
  case neg =>
    have c3b : (n != 0) = true := bne_iff_ne.2 c3
    have c3e : (n == 0) = false := beq_eq_false_iff_ne.2 c3
    have hR : bareN ⟨1, n, gen, ⟨#[]⟩, L⟩ = false := by simp [bareN, c1, c3]
    rw [hR]
    clear hR
    by_cases c4 : gen = 0
    · subst c4
      go_enter Tryz.func38, Tryz.ntmps38
      go_upto_region 1 with (fail)
      go_quiet (fail)
      go_wp2_with fail
      all_goals first | (exfalso; omega) | (go_ret; exact ⟨rfl, ((Ext.refl [] w).alloc _).drewN _⟩)
    · have c4b : (gen != 0) = true := bne_iff_ne.2 c4
      go_enter Tryz.func38, Tryz.ntmps38
      go_upto_region 1 with (fail)
      go_quiet (fail)
      go_wp2_with fail
      all_goals first | (exfalso; omega) | (go_ret; exact ⟨rfl, ((Ext.refl [] w).alloc _).drewN _⟩)
  subst c3
  by_cases c4 : gen = 0
  case neg =>
    have c4b : (gen != 0) = true := bne_iff_ne.2 c4
    have hR : bareN ⟨1, 0, gen, ⟨#[]⟩, L⟩ = false := by simp [bareN, c1, c4]
    rw [hR]
    clear hR
    go_enter Tryz.func38, Tryz.ntmps38
    go_upto_region 1 with (fail)
    go_quiet (fail)
    go_wp2_with fail
    all_goals first | (exfalso; omega) | (go_ret; exact ⟨rfl, ((Ext.refl [] w).alloc _).drewN _⟩)
  subst c4
  have hR : bareN ⟨1, 0, 0, ⟨#[]⟩, L⟩ = true := by simp [bareN, c1]
  rw [hR]
  clear hR
  go_enter Tryz.func38, Tryz.ntmps38
  go_upto_region 1 with (fail)
  go_quiet (fail)
  go_wp2_with fail
  all_goals first | (exfalso; omega) | (go_ret; exact ⟨rfl, ((Ext.refl [] w).alloc _).drewN _⟩)

set_option maxRecDepth 100000 in
set_option maxHeartbeats 8000000 in
theorem plain_6 (n gen : Int) (s : ByteArray) (L : List Int) (base : Option Addr) (cap : Nat) (w : World) :
    Calls Tryz.prog 38 #[.agg #[.int .i64 6, .int .i64 n, .int .i64 gen, .string s, .slice base L.length cap]] w fun e w' => e = .returned (.bool (bareN ⟨6, n, gen, s, L⟩)) ∧ Ext [] w w' := by
  by_cases c1 : 0 < L.length
  · have c1z : (0 : Int) < (L.length : Int) := by omega
    have hR : bareN ⟨6, n, gen, s, L⟩ = false := by simp [bareN, c1]
    rw [hR]
    clear hR
    go_enter Tryz.func38, Tryz.ntmps38
    go_upto_region 1 with (fail)
    go_quiet (fail)
    go_wp2_with fail
    all_goals first | (exfalso; omega) | (go_ret; exact ⟨rfl, ((Ext.refl [] w).alloc _).drewN _⟩)
  have c1z : ¬ (0 : Int) < (L.length : Int) := by omega
  by_cases c3 : n = 0
  case neg =>
    have c3b : (n != 0) = true := bne_iff_ne.2 c3
    have c3e : (n == 0) = false := beq_eq_false_iff_ne.2 c3
    have hR : bareN ⟨6, n, gen, s, L⟩ = false := by simp [bareN, c1, c3]
    rw [hR]
    clear hR
    by_cases c4 : gen = 0
    · subst c4
      go_enter Tryz.func38, Tryz.ntmps38
      go_upto_region 1 with (fail)
      go_quiet (fail)
      go_wp2_with fail
      all_goals first | (exfalso; omega) | (go_ret; exact ⟨rfl, ((Ext.refl [] w).alloc _).drewN _⟩)
    · have c4b : (gen != 0) = true := bne_iff_ne.2 c4
      go_enter Tryz.func38, Tryz.ntmps38
      go_upto_region 1 with (fail)
      go_quiet (fail)
      go_wp2_with fail
      all_goals first | (exfalso; omega) | (go_ret; exact ⟨rfl, ((Ext.refl [] w).alloc _).drewN _⟩)
  subst c3
  by_cases c4 : gen = 0
  case neg =>
    have c4b : (gen != 0) = true := bne_iff_ne.2 c4
    have hR : bareN ⟨6, 0, gen, s, L⟩ = false := by simp [bareN, c1, c4]
    rw [hR]
    clear hR
    go_enter Tryz.func38, Tryz.ntmps38
    go_upto_region 1 with (fail)
    go_quiet (fail)
    go_wp2_with fail
    all_goals first | (exfalso; omega) | (go_ret; exact ⟨rfl, ((Ext.refl [] w).alloc _).drewN _⟩)
  subst c4
  have H := Lib.hid (fun w => name03_walk s w)
  have hR : bareN ⟨6, 0, 0, s, L⟩ = decide (nameN s = 0) := by simp [bareN, c1]
  rw [hR]
  generalize nameN s = z at *
  clear hR
  by_cases d1 : z = 0
  · subst d1
    rw [decide_eq_true rfl]
    go_enter Tryz.func38, Tryz.ntmps38
    go_upto_region 1 with (fail)
    go_quiet (fail)
    go_wp2_with fail
    refine (H.out _).mono ?_
    rintro e w' ⟨rfl, hx⟩
    have HX := Lib.hid ((((Ext.refl [] w).alloc _).drewN _).trans hx)
    clear hx
    go_wp2_with fail
    go_ret
    exact ⟨rfl, HX.out⟩
  · rw [decide_eq_false d1]
    have d1b : (z == 0) = false := beq_eq_false_iff_ne.2 d1
    go_enter Tryz.func38, Tryz.ntmps38
    go_upto_region 1 with (fail)
    go_quiet (fail)
    go_wp2_with fail
    refine (H.out _).mono ?_
    rintro e w' ⟨rfl, hx⟩
    have HX := Lib.hid ((((Ext.refl [] w).alloc _).drewN _).trans hx)
    clear hx
    go_wp2_with fail
    go_ret
    exact ⟨rfl, HX.out⟩
end Go.Proofs.YtgpgamohcafklaaGreatDoor.Tr
