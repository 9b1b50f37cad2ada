/-
  deflate: trim, order, same walked.
-/
import Derived.Test.YtnapnaaejignaaaGreatDgE
namespace Go.Proofs.YtnapnaaejignaaaGreat.De
open Go.RowKit Bt Hu If Mt

set_option maxRecDepth 100000 in
set_option maxHeartbeats 4000000 in
theorem trim_walk (ao : Option Addr) (cap k : Nat) (l : List Int) (w : World) (hv : IntsAt w (.slice ao l.length cap) l) (hcap : l.length ≤ cap) (hl : l.length ≤ 1048576) (hk : k ≤ 1048576) :
    Calls Tryz.prog 35 #[.slice ao l.length cap, .int .i64 (k : Nat)] w fun e w' => e = .returned (.slice ao (trimN k l).length cap) ∧ Ext [] w w' := by
  obtain ⟨R, hR⟩ : ∃ R, trimN k l = R := ⟨_, rfl⟩
  rw [hR]
  unfold trimN at hR
  have HR := Lib.hid hR
  obtain ⟨ao2, cap2, he, hc⟩ := hv
  injection he with he1 he2 he3
  clear he2
  subst he1 he3
  have HC := Lib.hid hc
  clear hR hc
  go_enter Tryz.func35, Tryz.ntmps35
  go_wp2_with fail
  go_loopg [0] l.length (fun g sv wr => ∃ m : Nat, g = m ∧ m ≤ l.length ∧ sv = .slice ao m cap ∧ trimF m k (l.take m) = R ∧ Ext [] w wr)
  case atStart => exact ⟨l.length, rfl, Nat.le_refl _, rfl, by rw [List.take_length]; exact HR.out, Ext.refl _ _⟩
  case round =>
    clear HR
    obtain ⟨m, rfl, hm, rfl, hR, hx⟩ := hrel
    have HX := Lib.hid hx
    have hml : (l.take gk).length = gk := by rw [List.length_take]; omega
    have HML := Lib.hid hml
    clear hx hml
    by_cases hk1 : k < gk
    · obtain ⟨m, rfl⟩ : ∃ m, gk = m + 1 := ⟨gk - 1, by omega⟩
      have hkz : (k : Int) < ((m + 1 : Nat) : Int) := by omega
      obtain ⟨b, off, rfl, hcell⟩ := HC.out (by omega)
      obtain ⟨x, hx⟩ : ∃ x, l[m]? = some x := ⟨_, List.getElem?_eq_getElem (by omega)⟩
      have c0 := Ext.cell HX.out (hcell m x hx)
      have hgx : (l.take (m + 1)).getD ((l.take (m + 1)).length - 1) 0 = x := by
        rw [HML.out, Nat.add_sub_cancel, List.getD_eq_getElem?_getD, List.getElem?_take, if_pos (by omega), hx]
        rfl
      rw [trimF, HML.out, Nat.add_sub_cancel] at hR
      rw [HML.out, Nat.add_sub_cancel] at hgx
      rw [hgx] at hR
      have hidx : (((m + 1 : Nat) : Int)) - 1 = (m : Int) := by omega
      have hmc : (m : Int) ≤ (cap : Int) := by omega
      have hm1 : (m : Int) < ((m + 1 : Nat) : Int) := by omega
      have HR := Lib.hid hR
      clear hR hgx hx hcell
      obtain ⟨M, hM⟩ : ∃ M : Nat, m + 1 = M := ⟨_, rfl⟩
      rw [hM] at hkz hidx hm1 hk1 ⊢
      have HM := Lib.hid hM
      clear hM
      by_cases h0 : x = 0
      · subst h0
        go_wp2_with fail
        go_roundg m
        case measure => have := HM.out; omega
        case rel =>
          have hR := HR.out
          rw [if_pos (And.intro (by have := HM.out; omega) (by first | trivial | rfl)), List.take_take, Nat.min_eq_left (by omega)] at hR
          exact ⟨m, rfl, by omega, rfl, hR, HX.out⟩
      · have h0' : (x == 0) = false := beq_eq_false_iff_ne.2 h0
        have hR := HR.out
        rw [if_neg (fun h => h0 h.2)] at hR
        have HR := Lib.hid hR
        clear hR
        go_wp2_with fail
        go_ret
        exact ⟨by rw [← HR.out, List.length_take, Nat.min_eq_left (by have := HM.out; omega), HM.out]; rfl, HX.out⟩
    · have hkz : ¬ (k : Int) < (gk : Int) := by omega
      have hR2 : l.take gk = R := by
        cases gk with
        | zero => exact hR
        | succ m => rw [trimF, HML.out, if_neg (fun h => hk1 h.1)] at hR; exact hR
      have HR := Lib.hid hR2
      clear hR hR2
      go_wp2_with fail
      go_ret
      exact ⟨by rw [← HR.out, HML.out]; rfl, HX.out⟩
def ordZ9 : List Int := ordN.map fun i : Nat => (i : Int)
set_option maxRecDepth 100000 in
set_option maxHeartbeats 4000000 in
theorem orderD_walk {w0 w : World} {L : List Ob} (S : Sep w0 w L) : Calls Tryz.prog 37 #[] w fun e w' => ∃ q, e = .returned (.slice (some ⟨q, 0, none⟩) 19 19) ∧ Sep w0 w' (oIs q 19 ordZ9 :: L) := by
  have HS := Lib.hid S
  clear S
  go_enter Tryz.func37, Tryz.ntmps37
  go_wp2_with fail
  go_ret
  have S := HS.out.new ((Ext.refl [] w).alloc (.cells (ordZ9.map iz).toArray 3)) (oIs w.heap.size 19 ordZ9) ⟨rfl, .inr ⟨w.heap.size, 19, _, rfl, Nat.zero_le _, heap_alloc_at _, Nat.le_refl _, by unfold maxLen; omega, rfl, rfl⟩⟩ (fun k hk => by simp [oSl, Value.ownBlock] at hk; omega)
  exact ⟨w.heap.size, rfl, S⟩
/-! ### same -/
def idxD (v : Int) : List Int → Nat → Int
  | [], _ => -1
  | x :: l, k => if x = v then idxD v l (k + 1) else (k : Int)
theorem idxD_same (v : Int) : ∀ (l : List Int) (k : Nat), idxD v l k = if sameF v l = l.length then -1 else ((k + sameF v l : Nat) : Int)
  | [], _ => rfl
  | x :: l, k => by
    rw [idxD, sameF]
    by_cases h : x = v
    · rw [if_pos h, if_pos h, idxD_same v l (k + 1), List.length_cons]
      by_cases h2 : sameF v l = l.length
      · rw [if_pos h2, if_pos (by omega)]
      · rw [if_neg h2, if_neg (by omega)]
        omega
    · rw [if_neg h, if_neg h, List.length_cons, if_neg (by omega)]
      omega
theorem same1_walk (x y : Int) (pb : Nat) (a : Addr) (n cap : Nat) (w : World) (hn : 0 < n) (hb : w.cell? ⟨pb, 0, none⟩ = some (.slice (some a) n cap)) (hc : w.cell? a = some (.int .i64 y)) :
    Calls Tryz.prog 87 #[.int .i64 x, pO pb] w fun e w' => e = .returned (.bool (x != y)) ∧ w = w' := by
  have h0 : (0 : Int) < (n : Int) := by omega
  go_enter Tryz.func87, Tryz.ntmps87
  go_wp2_with fail
  go_ret
  exact ⟨rfl, rfl⟩
set_option maxRecDepth 100000 in
set_option maxHeartbeats 4000000 in
theorem index_walk (pb : Nat) (b off cap : Nat) (l : List Int) (w : World) (hb : w.cell? ⟨pb, 0, none⟩ = some (.slice (some ⟨b, off, none⟩) l.length cap)) (hc : ∀ i x, l[i]? = some x → w.cell? ⟨b, off + i, none⟩ = some (iz x)) (h0 : 0 < l.length) (hl : l.length ≤ 1048576) :
    Calls Tryz.prog 86 #[.slice (some ⟨b, off, none⟩) l.length cap, .func (.func 87) #[] #[pO pb]] w fun e w' => e = .returned (.int .i64 (idxD (l.headD 0) l 0)) ∧ Ext [] w w' := by
  obtain ⟨R, hR⟩ : ∃ R, idxD (l.headD 0) l 0 = R := ⟨_, rfl⟩
  rw [hR]
  have hy := hc 0 _ (headD_at l h0)
  obtain ⟨y, hyy⟩ : ∃ y, l.headD 0 = y := ⟨_, rfl⟩
  rw [hyy] at hy hR
  have HC := Lib.hid (⟨hc, hb, hy⟩ : _ ∧ _ ∧ _)
  have HR := Lib.hid hR
  clear hc hR hb hy hyy
  go_enter Tryz.func86, Tryz.ntmps86
  go_wp2_with fail
  go_loopg [5, 8] l.length (fun g _ iv wr => ∃ k : Nat, g + k = l.length ∧ iv = .int .i64 k ∧ idxD y (l.drop k) k = R ∧ Ext [] w wr)
  case atStart => exact ⟨0, by omega, rfl, HR.out, Ext.refl _ _⟩
  case round =>
    clear HR
    obtain ⟨k, hk, rfl, hR, hx⟩ := hrel
    have HX := Lib.hid hx
    clear hx
    by_cases hlt : k < l.length
    · obtain ⟨x, hxk⟩ : ∃ x, l[k]? = some x := ⟨_, List.getElem?_eq_getElem hlt⟩
      have d0 := Ext.cell HX.out (HC.out.1 k x hxk)
      rw [drop_at hxk, idxD] at hR
      have HR := Lib.hid hR
      have HN := Lib.hid (same1_walk x y pb ⟨b, off + 0, none⟩ l.length cap wr h0 (Ext.cell HX.out HC.out.2.1) (Ext.cell HX.out HC.out.2.2))
      clear hR hxk
      go_wp2_with fail
      refine HN.out.mono ?_
      clear HN d0
      rintro e w1 ⟨rfl, rfl⟩
      by_cases hm : x = y
      · have hR := HR.out
        rw [if_pos hm] at hR
        have hm2 : (x != y) = false := by simp [hm]
        have HR := Lib.hid hR
        clear hm hR
        go_wp2_with fail
        go_roundg (l.length - (k + 1))
        case measure => omega
        case rel => exact ⟨k + 1, by omega, by go_num, HR.out, HX.out⟩
      · have hR := HR.out
        rw [if_neg hm] at hR
        have hm2 : (x != y) = true := by simp [hm]
        have HR := Lib.hid hR
        clear hm hR
        go_wp2_with fail
        go_ret
        exact ⟨by rw [← HR.out]; rfl, HX.out⟩
    · obtain rfl : k = l.length := by omega
      rw [List.drop_length] at hR
      have HR := Lib.hid hR
      clear hR
      go_wp2_with fail
      go_ret
      exact ⟨by rw [← HR.out]; rfl, HX.out⟩
set_option maxRecDepth 100000 in
set_option maxHeartbeats 4000000 in
theorem sameD_walk (b off cap : Nat) (l : List Int) (w : World) (hc : ∀ i x, l[i]? = some x → w.cell? ⟨b, off + i, none⟩ = some (iz x)) (h0 : 0 < l.length) (hl : l.length ≤ 1048576) :
    Calls Tryz.prog 61 #[.slice (some ⟨b, off, none⟩) l.length cap] w fun e w' => e = .returned (.int .i64 (sameN l : Nat)) ∧ Ext [] w w' := by
  have hi := idxD_same (l.headD 0) l 0
  have hle := sameN_le l
  have hsn : sameF (l.headD 0) l = sameN l := rfl
  obtain ⟨N, hN⟩ : ∃ N, sameN l = N := ⟨_, rfl⟩
  rw [hsn, hN, Nat.zero_add] at hi
  rw [hN]
  have HI := Lib.hid hi
  have HC := Lib.hid hc
  clear hi hle hc hsn hN
  go_enter Tryz.func61, Tryz.ntmps61
  go_wp2_with fail
  have hx := (Ext.refl [] w).alloc (.cells #[.slice (some ⟨b, off, none⟩) l.length cap] 58)
  have hb := cellOf (heap_alloc_at (w := w) (.cells #[.slice (some ⟨b, off, none⟩) l.length cap] 58)) 0
  refine (index_walk w.heap.size b off cap l _ hb (fun i x hi => Ext.cell hx (HC.out i x hi)) h0 hl).mono ?_
  rintro e w2 ⟨rfl, hx2⟩
  have hb2 := Ext.cell hx2 hb
  have HX := Lib.hid (hx.trans hx2)
  clear hx hx2 hb HC
  by_cases he : N = l.length
  · have e1 : idxD (l.headD 0) l 0 = -1 := by rw [HI.out, if_pos he]
    rw [e1]
    have HE := Lib.hid he
    clear HI he e1
    go_wp2_with fail
    go_ret
    exact ⟨by rw [HE.out]; rfl, HX.out⟩
  · have e1 : idxD (l.headD 0) l 0 = (N : Nat) := by rw [HI.out, if_neg he]
    rw [e1]
    clear HI he e1
    have hn : (0 : Int) ≤ (N : Int) := by omega
    go_wp2_with fail
    go_ret
    exact ⟨rfl, HX.out⟩
end Go.Proofs.YtnapnaaejignaaaGreat.De
