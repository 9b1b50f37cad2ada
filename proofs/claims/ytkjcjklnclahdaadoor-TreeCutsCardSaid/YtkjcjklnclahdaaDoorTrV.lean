/-
  ref17: Same walked.
-/
import Derived.Test.YtkjcjklnclahdaaDoorTrU
namespace Go.Proofs.YtkjcjklnclahdaaDoor.Tr
open Go.RowKit

def sameNd (x y : Nd) : Bool := decide (x.kind = y.kind) && (decide (x.n = y.n) && (decide (x.gen = y.gen) && (x.s.toList == y.s.toList && decide (x.kids = y.kids))))
def sameL : List Nd → List Nd → Bool
  | [], [] => true
  | x :: a, y :: b => sameNd x y && sameL a b
  | _, _ => false
theorem sameNd_iff (x y : Nd) : sameNd x y = true ↔ x = y := by
  constructor
  · intro h
    simp only [sameNd, Bool.and_eq_true, decide_eq_true_eq, beq_iff_eq] at h
    obtain ⟨h1, h2, h3, h4, h5⟩ := h
    obtain ⟨a, b, c, s, d⟩ := x
    obtain ⟨a', b', c', s', d'⟩ := y
    have := bytes_eq h4
    simp_all
  · rintro rfl; simp [sameNd]
theorem sameL_iff : ∀ a b : List Nd, sameL a b = true ↔ a = b
  | [], [] => by simp [sameL]
  | x :: a, y :: b => by rw [sameL, Bool.and_eq_true, sameNd_iff, sameL_iff a b, List.cons.injEq]
  | [], _ :: _ => by simp [sameL]
  | _ :: _, [] => by simp [sameL]
theorem sameL_len : ∀ {a b : List Nd}, a.length ≠ b.length → sameL a b = false
  | [], [], h => absurd rfl h
  | x :: a, y :: b, h => by rw [sameL, sameL_len (a := a) (b := b) (by simpa using h), Bool.and_false]
  | [], _ :: _, _ => rfl
  | _ :: _, [], _ => rfl
def sameK : List Int → List Int → Bool
  | x :: a, y :: b => decide (x = y) && sameK a b
  | _, _ => true
theorem sameK_is : ∀ {a b : List Int}, a.length = b.length → sameK a b = decide (a = b)
  | [], [], _ => rfl
  | x :: a, y :: b, h => by
    rw [sameK, sameK_is (by simpa using h)]
    by_cases q : x = y <;> by_cases r : a = b <;> simp [q, r]
  | [], _ :: _, h => by simp at h
  | _ :: _, [], h => by simp at h
set_option maxRecDepth 100000 in
set_option maxHeartbeats 2000000 in
theorem same_walk (u v : Value) (a b : List Nd) (w : World) (hu : NodesAt w u a) (hv : NodesAt w v b) (ha : a.length ≤ 9223372036854775807) (hb : b.length ≤ 9223372036854775807) :
    Calls Tryd.prog 44 #[u, v] w fun e w' => e = .returned (.bool (sameL a b)) ∧ Ext [] w w' := by
  obtain ⟨ub, uc, rfl, -, hU⟩ := hu
  obtain ⟨vb, vc, rfl, -, hV⟩ := hv
  obtain ⟨n, hn⟩ : ∃ n, a.length = n := ⟨_, rfl⟩
  obtain ⟨m, hm⟩ : ∃ m, b.length = m := ⟨_, rfl⟩
  obtain ⟨R, hR⟩ : ∃ R, sameL a b = R := ⟨_, rfl⟩
  rw [hR]
  have HH := Lib.hid (⟨hU, hV, hn, hm, hR⟩ : _ ∧ _ ∧ _ ∧ _ ∧ _)
  rw [hn] at ha ⊢
  rw [hm] at hb ⊢
  clear hU hV hR
  by_cases hnm : n = m
  case neg =>
    have hR : R = false := by rw [← HH.out.2.2.2.2]; exact sameL_len (by rw [hn, hm]; exact hnm)
    subst hR
    have hbb : ((n : Int) != (m : Int)) = true := bne_iff_ne.2 (by omega)
    clear hn hm
    go_enter Tryd.func44, Tryd.ntmps44
    go_wp2_with fail
    go_ret
    exact ⟨rfl, Ext.refl _ _⟩
  case pos =>
  subst hnm
  have hbb : ((n : Int) != (n : Int)) = false := bne_self_eq_false _
  clear hn hm hb
  go_enter Tryd.func44, Tryd.ntmps44
  go_wp2_with fail
  clear hbb
  go_loopg [4, 5, 6] n (fun g v4 iv v6 wr => ∃ i : Nat, g + i = n ∧ iv = .int .i64 i ∧ sameL (a.drop i) (b.drop i) = R ∧ Ext [] w wr)
  case atStart => exact ⟨0, by omega, rfl, HH.out.2.2.2.2, Ext.refl _ _⟩
  case round =>
    obtain ⟨i, hgi, rfl, hR, hx⟩ := hrel
    by_cases hlt : i < n
    case neg =>
      obtain rfl : gk = 0 := by omega
      have hR0 : R = true := by rw [← hR, List.drop_eq_nil_of_le (by rw [HH.out.2.2.1]; omega), List.drop_eq_nil_of_le (by rw [HH.out.2.2.2.1]; omega)]; rfl
      subst hR0
      have HX := Lib.hid hx
      clear hx hR
      go_wp2_with fail
      go_ret
      exact ⟨rfl, HX.out⟩
    case pos =>
    obtain ⟨g, rfl⟩ : ∃ g, gk = g + 1 := ⟨gk - 1, by omega⟩
    have hltz : (i : Int) < (n : Int) := by omega
    have hia : i < a.length := by rw [HH.out.2.2.1]; exact hlt
    have hib : i < b.length := by rw [HH.out.2.2.2.1]; exact hlt
    rw [drop_at a i hia, drop_at b i hib, sameL] at hR
    obtain ⟨b1, o1, rfl, x1, x2, x3, x4, xw, xk, xc, x5, x6⟩ := HH.out.1.ext hx i hia
    obtain ⟨b2, o2, rfl, y1, y2, y3, y4, yw, yk, yc, y5, y6⟩ := HH.out.2.1.ext hx i hib
    generalize a[i]'hia = x at *
    generalize b[i]'hib = y at *
    obtain ⟨X, hX⟩ : ∃ X, x.kids.length = X := ⟨_, rfl⟩
    obtain ⟨Y, hY⟩ : ∃ Y, y.kids.length = Y := ⟨_, rfl⟩
    have hxl := xw.len
    rw [hX] at x5 hxl
    rw [hY] at y5
    have HX := Lib.hid (⟨hx, hR, x6, y6, hX, hY⟩ : _ ∧ _ ∧ _ ∧ _ ∧ _ ∧ _)
    clear hx hR x6 y6 hX hY xw yw
    have x1 : ∀ V : Ex wr, _ := fun V => V.cell x1
    have x2 : ∀ V : Ex wr, _ := fun V => V.cell x2
    have x3 : ∀ V : Ex wr, _ := fun V => V.cell x3
    have x4 : ∀ V : Ex wr, _ := fun V => V.cell x4
    have x5 : ∀ V : Ex wr, _ := fun V => V.cell x5
    have y1 : ∀ V : Ex wr, _ := fun V => V.cell y1
    have y2 : ∀ V : Ex wr, _ := fun V => V.cell y2
    have y3 : ∀ V : Ex wr, _ := fun V => V.cell y3
    have y4 : ∀ V : Ex wr, _ := fun V => V.cell y4
    have y5 : ∀ V : Ex wr, _ := fun V => V.cell y5
    by_cases q1 : x.kind = y.kind
    case neg =>
      have q1b : (x.kind != y.kind) = true := bne_iff_ne.2 q1
      have hR : R = false := by rw [← HX.out.2.1, sameNd]; simp [q1]
      subst hR
      go_upto_region 6 with (fail)
      refine wp_region_ext (by kernel_rfl) (by kernel_rfl) ?_
      simp only [List.append_eq, List.cons_append, List.nil_append]
      repeat (go_big_quiet_step (fail))
      refine wpQuiet_nil ?_
      rintro _ ⟨V, rfl⟩
      have HV := Lib.hid V.ext
      clear x1 x2 x3 x4 x5 y1 y2 y3 y4 y5
      go_wp2_with fail
      go_ret
      exact ⟨rfl, HX.out.1.trans HV.out⟩
    case pos =>
    have q1b : (x.kind != y.kind) = false := by rw [q1]; exact bne_self_eq_false _
    have Qq1 := Lib.hid q1
    clear q1
    by_cases q2 : x.n = y.n
    case neg =>
      have q2b : (x.n != y.n) = true := bne_iff_ne.2 q2
      have hR : R = false := by rw [← HX.out.2.1, sameNd]; simp [q2]
      subst hR
      go_upto_region 6 with (fail)
      refine wp_region_ext (by kernel_rfl) (by kernel_rfl) ?_
      simp only [List.append_eq, List.cons_append, List.nil_append]
      repeat (go_big_quiet_step (fail))
      refine wpQuiet_nil ?_
      rintro _ ⟨V, rfl⟩
      have HV := Lib.hid V.ext
      clear x1 x2 x3 x4 x5 y1 y2 y3 y4 y5
      go_wp2_with fail
      go_ret
      exact ⟨rfl, HX.out.1.trans HV.out⟩
    case pos =>
    have q2b : (x.n != y.n) = false := by rw [q2]; exact bne_self_eq_false _
    have Qq2 := Lib.hid q2
    clear q2
    by_cases q3 : x.gen = y.gen
    case neg =>
      have q3b : (x.gen != y.gen) = true := bne_iff_ne.2 q3
      have hR : R = false := by rw [← HX.out.2.1, sameNd]; simp [q3]
      subst hR
      go_upto_region 6 with (fail)
      refine wp_region_ext (by kernel_rfl) (by kernel_rfl) ?_
      simp only [List.append_eq, List.cons_append, List.nil_append]
      repeat (go_big_quiet_step (fail))
      refine wpQuiet_nil ?_
      rintro _ ⟨V, rfl⟩
      have HV := Lib.hid V.ext
      clear x1 x2 x3 x4 x5 y1 y2 y3 y4 y5
      go_wp2_with fail
      go_ret
      exact ⟨rfl, HX.out.1.trans HV.out⟩
    case pos =>
    have q3b : (x.gen != y.gen) = false := by rw [q3]; exact bne_self_eq_false _
    have Qq3 := Lib.hid q3
    clear q3
    cases q4 : (x.s.toList == y.s.toList) with
    | false =>
      have hR : R = false := by rw [← HX.out.2.1, sameNd]; simp [q4]
      subst hR
      go_upto_region 6 with (fail)
      refine wp_region_ext (by kernel_rfl) (by kernel_rfl) ?_
      simp only [List.append_eq, List.cons_append, List.nil_append]
      repeat (go_big_quiet_step (fail))
      refine wpQuiet_nil ?_
      rintro _ ⟨V, rfl⟩
      have HV := Lib.hid V.ext
      clear x1 x2 x3 x4 x5 y1 y2 y3 y4 y5
      go_wp2_with fail
      go_ret
      exact ⟨rfl, HX.out.1.trans HV.out⟩
    | true =>
    by_cases q5 : X = Y
    case neg =>
      have q5b : ((X : Int) != (Y : Int)) = true := bne_iff_ne.2 (by omega)
      have hkk : ¬ x.kids = y.kids := fun h => q5 (by rw [← HX.out.2.2.2.2.1, ← HX.out.2.2.2.2.2, h])
      have hR : R = false := by rw [← HX.out.2.1, sameNd]; simp [hkk]
      subst hR
      clear hkk
      go_upto_region 6 with (fail)
      refine wp_region_ext (by kernel_rfl) (by kernel_rfl) ?_
      simp only [List.append_eq, List.cons_append, List.nil_append]
      repeat (go_big_quiet_step (fail))
      refine wpQuiet_nil ?_
      rintro _ ⟨V, rfl⟩
      have HV := Lib.hid V.ext
      clear x1 x2 x3 x4 x5 y1 y2 y3 y4 y5
      go_wp2_with fail
      go_ret
      exact ⟨rfl, HX.out.1.trans HV.out⟩
    case pos =>
    subst q5
    have q5b : ((X : Int) != (X : Int)) = false := bne_self_eq_false _
    obtain ⟨K, hK⟩ : ∃ K, decide (x.kids = y.kids) = K := ⟨_, rfl⟩
    have hSN : sameNd x y = K := by rw [sameNd, Qq1.out, Qq2.out, Qq3.out, q4, hK]; simp
    have HK := Lib.hid (⟨hSN, (sameK_is (HX.out.2.2.2.2.1.trans HX.out.2.2.2.2.2.symm)).trans hK⟩ : _ ∧ _)
    clear hSN hK
    go_upto_region 6 with (fail)
    refine wp_region_ext (by kernel_rfl) (by kernel_rfl) ?_
    simp only [List.append_eq, List.cons_append, List.nil_append]
    repeat (go_big_quiet_step (fail))
    refine wpQuiet_nil ?_
    rintro _ ⟨V, rfl⟩
    have HV := Lib.hid V.ext
    go_wp2_with fail
    have HX6 := Lib.hid (⟨x5 (Ex.mk wr (Ext.refl [] wr)), y5 (Ex.mk wr (Ext.refl [] wr))⟩ : wr.cell? _ = _ ∧ wr.cell? _ = _)
    clear x1 x2 x3 x4 y1 y2 y3 y4 q1b q2b q3b q4 q5b x5 y5
    go_loopg [4, 6] X (fun g2 v4 kv wx => ∃ k : Nat, g2 + k = X ∧ kv = .int .i64 k ∧ sameK (x.kids.drop k) (y.kids.drop k) = K ∧ Ext [] wr wx)
    case atStart => exact ⟨0, by omega, rfl, HK.out.2, HV.out⟩
    case round =>
      obtain ⟨k, hgk, rfl, hKk, hx⟩ := hrel
      have x5 := hx.cell HX6.out.1
      have y5 := hx.cell HX6.out.2
      by_cases hkX : k < X
      · obtain ⟨g2, rfl⟩ : ∃ g2, gk = g2 + 1 := ⟨gk - 1, by omega⟩
        have hkz : (k : Int) < (X : Int) := by omega
        have k1 : k < x.kids.length := by rw [HX.out.2.2.2.2.1]; exact hkX
        have k2 : k < y.kids.length := by rw [HX.out.2.2.2.2.2]; exact hkX
        rw [drop_at _ k k1, drop_at _ k k2, sameK] at hKk
        obtain ⟨b5, o5, rfl, c5⟩ := HX.out.2.2.1 k k1
        obtain ⟨b6, o6, rfl, c6⟩ := HX.out.2.2.2.1 k k2
        have c5 := hx.cell c5
        have c6 := hx.cell c6
        generalize x.kids[k]'k1 = p at *
        generalize y.kids[k]'k2 = q at *
        have HX7 := Lib.hid (⟨hx, hKk⟩ : _ ∧ _)
        clear hx hKk
        by_cases hpq : p = q
        · subst hpq
          have hb : (p != p) = false := bne_self_eq_false _
          go_upto_region 11 with (fail)
          go_quiet (fail)
          go_wp2_with fail
          go_roundg g2
          case measure => omega
          case rel => exact ⟨k + 1, by omega, by go_num, by simpa using HX7.out.2, HX7.out.1.drewN _⟩
        · have hb : (p != q) = true := bne_iff_ne.2 hpq
          have hK : K = false := by rw [← HX7.out.2, decide_eq_false hpq]; rfl
          have hR : R = false := by rw [← HX.out.2.1, HK.out.1, hK]; rfl
          subst hR
          go_upto_region 11 with (fail)
          go_quiet (fail)
          go_wp2_with fail
          go_ret
          exact ⟨rfl, (HX.out.1.trans HX7.out.1).drewN _⟩
      · obtain rfl : gk = 0 := by omega
        have hK : K = true := by rw [← hKk, List.drop_eq_nil_of_le (by rw [HX.out.2.2.2.2.1]; omega), List.drop_eq_nil_of_le (by rw [HX.out.2.2.2.2.2]; omega)]; rfl
        have HX7 := Lib.hid hx
        clear hx hKk
        go_wp2_with fail
        go_roundg g
        case measure => omega
        case rel =>
          have := HX.out.2.1
          rw [HK.out.1, hK, Bool.true_and] at this
          exact ⟨i + 1, by omega, by go_num, this, HX.out.1.trans HX7.out⟩
end Go.Proofs.YtkjcjklnclahdaaDoor.Tr
