/-
  section.may, section.Check walked (wip/mkxsb.py).
-/
import Derived.Test.YtkaimeogebgofaaDoorXsA
namespace Go.Proofs.YtkaimeogebgofaaDoor.Xs
open Go.RowKit
open Go.Proofs.YtkaimeogebgofaaDoor.Tr

abbrev enV (x : En) : Value := .agg #[.int .i64 x.num, .int .i64 x.kind, .int .i64 x.a, .int .i64 x.b]
set_option maxRecDepth 100000 in
set_option maxHeartbeats 2000000 in
theorem may_0 (num a b : Int) (w : World) :
    Calls Tryd.prog 22 #[enV ⟨num, 0, a, b⟩] w fun e w' => e = .returned (.bool (mayN ⟨num, 0, a, b⟩)) ∧ Ext [] w w' := by
  by_cases d0 : 0 ≤ num
  case neg =>
    have hR : mayN ⟨num, 0, a, b⟩ = false := by simp [mayN, d0]
    rw [hR]
    clear hR
    go_enter Tryd.func22, Tryd.ntmps22
    go_wp2_with fail
    go_ret
    exact ⟨rfl, by first | exact Ext.refl _ _ | exact (Ext.refl [] w).alloc _⟩
  case pos =>
  by_cases d1 : num ≤ 8388607
  case neg =>
    have hR : mayN ⟨num, 0, a, b⟩ = false := by simp [mayN, d0, d1]
    rw [hR]
    clear hR
    go_enter Tryd.func22, Tryd.ntmps22
    go_wp2_with fail
    go_ret
    exact ⟨rfl, by first | exact Ext.refl _ _ | exact (Ext.refl [] w).alloc _⟩
  case pos =>
  by_cases d2 : a = 0
  case neg =>
    have hz : (a == 0) = false := beq_eq_false_iff_ne.2 d2
    have hR : mayN ⟨num, 0, a, b⟩ = false := by simp [mayN, d0, d1, d2]
    rw [hR]
    clear hR
    go_enter Tryd.func22, Tryd.ntmps22
    go_wp2_with fail
    go_ret
    exact ⟨rfl, by first | exact Ext.refl _ _ | exact (Ext.refl [] w).alloc _⟩
  case pos =>
  by_cases d3 : b = 0
  case neg =>
    have hz : (b == 0) = false := beq_eq_false_iff_ne.2 d3
    have hR : mayN ⟨num, 0, a, b⟩ = false := by simp [mayN, d0, d1, d2, d3]
    rw [hR]
    clear hR
    go_enter Tryd.func22, Tryd.ntmps22
    go_wp2_with fail
    go_ret
    exact ⟨rfl, by first | exact Ext.refl _ _ | exact (Ext.refl [] w).alloc _⟩
  case pos =>
  subst d2 d3
  have hR : mayN ⟨num, 0, 0, 0⟩ = true := by simp [mayN, d0, d1]
  rw [hR]
  clear hR
  go_enter Tryd.func22, Tryd.ntmps22
  go_wp2_with fail
  go_ret
  exact ⟨rfl, by first | exact Ext.refl _ _ | exact (Ext.refl [] w).alloc _⟩
set_option maxRecDepth 100000 in
set_option maxHeartbeats 2000000 in
theorem may_1 (num a b : Int) (w : World) :
    Calls Tryd.prog 22 #[enV ⟨num, 1, a, b⟩] w fun e w' => e = .returned (.bool (mayN ⟨num, 1, a, b⟩)) ∧ Ext [] w w' := by
  by_cases d0 : 0 ≤ num
  case neg =>
    have hR : mayN ⟨num, 1, a, b⟩ = false := by simp [mayN, d0]
    rw [hR]
    clear hR
    go_enter Tryd.func22, Tryd.ntmps22
    go_wp2_with fail
    go_ret
    exact ⟨rfl, by first | exact Ext.refl _ _ | exact (Ext.refl [] w).alloc _⟩
  case pos =>
  by_cases d1 : num ≤ 8388607
  case neg =>
    have hR : mayN ⟨num, 1, a, b⟩ = false := by simp [mayN, d0, d1]
    rw [hR]
    clear hR
    go_enter Tryd.func22, Tryd.ntmps22
    go_wp2_with fail
    go_ret
    exact ⟨rfl, by first | exact Ext.refl _ _ | exact (Ext.refl [] w).alloc _⟩
  case pos =>
  by_cases d2 : 0 ≤ a
  case neg =>
    have hR : mayN ⟨num, 1, a, b⟩ = false := by simp [mayN, d0, d1, d2]
    rw [hR]
    clear hR
    go_enter Tryd.func22, Tryd.ntmps22
    go_wp2_with fail
    go_ret
    exact ⟨rfl, by first | exact Ext.refl _ _ | exact (Ext.refl [] w).alloc _⟩
  case pos =>
  by_cases d3 : a ≤ 9999999999
  case neg =>
    have hR : mayN ⟨num, 1, a, b⟩ = false := by simp [mayN, d0, d1, d2, d3]
    rw [hR]
    clear hR
    go_enter Tryd.func22, Tryd.ntmps22
    go_wp2_with fail
    go_ret
    exact ⟨rfl, by first | exact Ext.refl _ _ | exact (Ext.refl [] w).alloc _⟩
  case pos =>
  by_cases d4 : 0 ≤ b
  case neg =>
    have hR : mayN ⟨num, 1, a, b⟩ = false := by simp [mayN, d0, d1, d2, d3, d4]
    rw [hR]
    clear hR
    go_enter Tryd.func22, Tryd.ntmps22
    go_wp2_with fail
    go_ret
    exact ⟨rfl, by first | exact Ext.refl _ _ | exact (Ext.refl [] w).alloc _⟩
  case pos =>
  by_cases d5 : b ≤ 65535
  case neg =>
    have hR : mayN ⟨num, 1, a, b⟩ = false := by simp [mayN, d0, d1, d2, d3, d4, d5]
    rw [hR]
    clear hR
    go_enter Tryd.func22, Tryd.ntmps22
    go_wp2_with fail
    go_ret
    exact ⟨rfl, by first | exact Ext.refl _ _ | exact (Ext.refl [] w).alloc _⟩
  case pos =>
  have hR : mayN ⟨num, 1, a, b⟩ = true := by simp [mayN, d0, d1, d2, d3, d4, d5]
  rw [hR]
  clear hR
  go_enter Tryd.func22, Tryd.ntmps22
  go_wp2_with fail
  go_ret
  exact ⟨rfl, by first | exact Ext.refl _ _ | exact (Ext.refl [] w).alloc _⟩
set_option maxRecDepth 100000 in
set_option maxHeartbeats 2000000 in
theorem may_2 (num a b : Int) (w : World) :
    Calls Tryd.prog 22 #[enV ⟨num, 2, a, b⟩] w fun e w' => e = .returned (.bool (mayN ⟨num, 2, a, b⟩)) ∧ Ext [] w w' := by
  by_cases d0 : 0 ≤ num
  case neg =>
    have hR : mayN ⟨num, 2, a, b⟩ = false := by simp [mayN, d0]
    rw [hR]
    clear hR
    go_enter Tryd.func22, Tryd.ntmps22
    go_wp2_with fail
    go_ret
    exact ⟨rfl, by first | exact Ext.refl _ _ | exact (Ext.refl [] w).alloc _⟩
  case pos =>
  by_cases d1 : num ≤ 8388607
  case neg =>
    have hR : mayN ⟨num, 2, a, b⟩ = false := by simp [mayN, d0, d1]
    rw [hR]
    clear hR
    go_enter Tryd.func22, Tryd.ntmps22
    go_wp2_with fail
    go_ret
    exact ⟨rfl, by first | exact Ext.refl _ _ | exact (Ext.refl [] w).alloc _⟩
  case pos =>
  by_cases d2 : 1 ≤ a
  case neg =>
    have hR : mayN ⟨num, 2, a, b⟩ = false := by simp [mayN, d0, d1, d2]
    rw [hR]
    clear hR
    go_enter Tryd.func22, Tryd.ntmps22
    go_wp2_with fail
    go_ret
    exact ⟨rfl, by first | exact Ext.refl _ _ | exact (Ext.refl [] w).alloc _⟩
  case pos =>
  by_cases d3 : a ≤ 8388607
  case neg =>
    have hR : mayN ⟨num, 2, a, b⟩ = false := by simp [mayN, d0, d1, d2, d3]
    rw [hR]
    clear hR
    go_enter Tryd.func22, Tryd.ntmps22
    go_wp2_with fail
    go_ret
    exact ⟨rfl, by first | exact Ext.refl _ _ | exact (Ext.refl [] w).alloc _⟩
  case pos =>
  by_cases d4 : 0 ≤ b
  case neg =>
    have hR : mayN ⟨num, 2, a, b⟩ = false := by simp [mayN, d0, d1, d2, d3, d4]
    rw [hR]
    clear hR
    go_enter Tryd.func22, Tryd.ntmps22
    go_wp2_with fail
    go_ret
    exact ⟨rfl, by first | exact Ext.refl _ _ | exact (Ext.refl [] w).alloc _⟩
  case pos =>
  by_cases d5 : b < 4096
  case neg =>
    have hR : mayN ⟨num, 2, a, b⟩ = false := by simp [mayN, d0, d1, d2, d3, d4, d5]
    rw [hR]
    clear hR
    go_enter Tryd.func22, Tryd.ntmps22
    go_wp2_with fail
    go_ret
    exact ⟨rfl, by first | exact Ext.refl _ _ | exact (Ext.refl [] w).alloc _⟩
  case pos =>
  have hR : mayN ⟨num, 2, a, b⟩ = true := by simp [mayN, d0, d1, d2, d3, d4, d5]
  rw [hR]
  clear hR
  go_enter Tryd.func22, Tryd.ntmps22
  go_wp2_with fail
  go_ret
  exact ⟨rfl, by first | exact Ext.refl _ _ | exact (Ext.refl [] w).alloc _⟩
set_option maxRecDepth 100000 in
set_option maxHeartbeats 2000000 in
theorem may_x (num kind a b : Int) (hk0 : kind ≠ 0) (hk1 : kind ≠ 1) (hk2 : kind ≠ 2) (w : World) :
    Calls Tryd.prog 22 #[enV ⟨num, kind, a, b⟩] w fun e w' => e = .returned (.bool (mayN ⟨num, kind, a, b⟩)) ∧ Ext [] w w' := by
  have q0 : (kind == 0) = false := beq_eq_false_iff_ne.2 hk0
  have q1 : (kind == 1) = false := beq_eq_false_iff_ne.2 hk1
  have q2 : (kind == 2) = false := beq_eq_false_iff_ne.2 hk2
  by_cases d0 : 0 ≤ num
  case neg =>
    have hR : mayN ⟨num, kind, a, b⟩ = false := by simp [mayN, hk0, hk1, hk2, d0]
    rw [hR]
    clear hR
    go_enter Tryd.func22, Tryd.ntmps22
    go_wp2_with fail
    go_ret
    exact ⟨rfl, by first | exact Ext.refl _ _ | exact (Ext.refl [] w).alloc _⟩
  case pos =>
  by_cases d1 : num ≤ 8388607
  case neg =>
    have hR : mayN ⟨num, kind, a, b⟩ = false := by simp [mayN, hk0, hk1, hk2, d0, d1]
    rw [hR]
    clear hR
    go_enter Tryd.func22, Tryd.ntmps22
    go_wp2_with fail
    go_ret
    exact ⟨rfl, by first | exact Ext.refl _ _ | exact (Ext.refl [] w).alloc _⟩
  case pos =>
  have hR : mayN ⟨num, kind, a, b⟩ = false := by simp [mayN, hk0, hk1, hk2, d0, d1]
  rw [hR]
  clear hR
  go_enter Tryd.func22, Tryd.ntmps22
  go_wp2_with fail
  go_ret
  exact ⟨rfl, by first | exact Ext.refl _ _ | exact (Ext.refl [] w).alloc _⟩
theorem may_walk (x : En) (w : World) : Calls Tryd.prog 22 #[enV x] w fun e w' => e = .returned (.bool (mayN x)) ∧ Ext [] w w' := by
  obtain ⟨num, kind, a, b⟩ := x
  by_cases h0 : kind = 0
  · subst h0; exact may_0 num a b w
  by_cases h1 : kind = 1
  · subst h1; exact may_1 num a b w
  by_cases h2 : kind = 2
  · subst h2; exact may_2 num a b w
  exact may_x num kind a b h0 h1 h2 w
set_option maxRecDepth 100000 in
set_option maxHeartbeats 4000000 in
theorem sec_walk (v : Value) (l : List En) (w : World) (h : EnsAt w v l) (hl : l.length ≤ 9223372036854775807) :
    Calls Tryd.prog 9 #[v] w fun e w' => e = .returned (.int .i64 (secC l)) ∧ Ext [] w w' := by
  obtain ⟨R, hR⟩ : ∃ R, secC l = R := ⟨_, rfl⟩
  rw [hR]
  rw [secC] at hR
  obtain ⟨base, cap, rfl, -, hN⟩ := h
  obtain ⟨n, hn⟩ : ∃ n, l.length = n := ⟨_, rfl⟩
  have HH := Lib.hid (⟨hN, hR, hn⟩ : _ ∧ _ ∧ _)
  rw [hn] at hl ⊢
  clear hN hR hn
  go_enter Tryd.func9, Tryd.ntmps9
  go_wp2_with fail
  go_loopg [3, 4, 7] n (fun g v3 v4 iv wr => ∃ (i : Nat) (p : Option Int), g + i = n ∧ iv = .int .i64 i ∧ (if secN p (l.drop i) then (0 : Int) else 2) = R ∧ (p = none ∧ i = 0 ∨ 0 < i ∧ ∃ (h : i - 1 < l.length), p = some (l[i - 1]'h).num) ∧ Ext [] w wr)
  case atStart => exact ⟨0, none, by omega, rfl, HH.out.2.1, .inl ⟨rfl, rfl⟩, Ext.refl _ _⟩
  case round =>
    obtain ⟨i, p, hgi, rfl, hR, hp, hx⟩ := hrel
    by_cases hlt : i < n
    case neg =>
      obtain rfl : gk = 0 := by omega
      rw [List.drop_eq_nil_of_le (by rw [HH.out.2.2]; omega)] at hR
      obtain rfl : 0 = R := hR
      have HX := Lib.hid hx
      clear hx hp
      go_wp2_with fail
      go_ret
      exact ⟨rfl, HX.out⟩
    case pos =>
    obtain ⟨g, rfl⟩ : ∃ g, gk = g + 1 := ⟨gk - 1, by omega⟩
    have hltz : (i : Int) < (n : Int) := by omega
    have hil : i < l.length := by rw [HH.out.2.2]; exact hlt
    rw [drop_at l i hil, secN] at hR
    obtain ⟨bb, o, rfl, n1, n2, n3, n4⟩ := HH.out.1.ext hx i hil
    have hxx : l[i]? = some (l[i]'hil) := List.getElem?_eq_getElem hil
    generalize l[i]'hil = x at *
    have HB := Lib.hid (fun W => may_walk x W)
    have HX := Lib.hid (⟨hx, hR, hp, hxx⟩ : _ ∧ _ ∧ _ ∧ _)
    clear hx hR hp hxx
    go_upto_region 4 with (fail)
    obtain ⟨W, hW⟩ : ∃ W, wr.alloc (Obj.cells #[.int .i64 x.num, .int .i64 x.kind, .int .i64 x.a, .int .i64 x.b] 32) = W := ⟨_, rfl⟩
    have hxW : Ext [] w W := by rw [← hW]; exact HX.out.1.alloc _
    have hb := heap_alloc_at (w := wr) (Obj.cells #[.int .i64 x.num, .int .i64 x.kind, .int .i64 x.a, .int .i64 x.b] 32)
    rw [hW] at hb ⊢
    obtain ⟨q, hq⟩ : ∃ q, wr.heap.size = q := ⟨_, rfl⟩
    rw [hq] at hb ⊢
    have k0 : ∀ y : Ex W, y.w.cell? ⟨q, 0, none⟩ = some (.int .i64 x.num) := fun y => cellOf (y.ext.keep hb (by simp)) 0
    have k1 : ∀ y : Ex W, y.w.cell? ⟨q, 1, none⟩ = some (.int .i64 x.kind) := fun y => cellOf (y.ext.keep hb (by simp)) 1
    have k2 : ∀ y : Ex W, y.w.cell? ⟨q, 2, none⟩ = some (.int .i64 x.a) := fun y => cellOf (y.ext.keep hb (by simp)) 2
    have k3 : ∀ y : Ex W, y.w.cell? ⟨q, 3, none⟩ = some (.int .i64 x.b) := fun y => cellOf (y.ext.keep hb (by simp)) 3
    have HXW := Lib.hid hxW
    clear hW hb hq hxW n1 n2 n3 n4
    cases hm : mayN x with
    | false =>
      rw [hm] at HB HX
      have hR := HX.out.2.1
      rw [Bool.false_and] at hR
      obtain rfl : 2 = R := hR
      refine wp_region_ext (by kernel_rfl) (by kernel_rfl) ?_
      repeat (go_big_quiet_step (first | (go_at_call 22; refine Calls.ext_of (HB.out _))))
      refine wpQuiet_nil ?_
      rintro _ ⟨y, rfl⟩
      have HX2 := Lib.hid (HXW.out.trans y.ext)
      clear k0 k1 k2 k3 HB
      go_wp2_with fail
      go_ret
      exact ⟨rfl, HX2.out⟩
    | true =>
      rw [hm] at HB HX
      have HR := Lib.hid HX.out.2.1
      by_cases hi0 : i = 0
      · subst hi0
        have hp : p = none := by
          rcases HX.out.2.2.1 with h | h
          · exact h.1
          · omega
        subst hp
        refine wp_region_ext (by kernel_rfl) (by kernel_rfl) ?_
        repeat (go_big_quiet_step (first | (go_at_call 22; refine Calls.ext_of (HB.out _))))
        refine wpQuiet_nil ?_
        rintro _ ⟨y, rfl⟩
        have HX2 := Lib.hid (HXW.out.trans y.ext)
        clear k0 k1 k2 k3 HB
        go_wp2_with fail
        go_roundg g
        case measure => omega
        case rel => exact ⟨1, some x.num, by omega, by go_num, by simpa [belowI] using HR.out, .inr ⟨by omega, by omega, by
          have := HX.out.2.2.2
          rw [List.getElem?_eq_getElem (by omega)] at this
          exact congrArg (fun z : En => some z.num) (Option.some.inj this).symm⟩, HX2.out⟩
      · have hip : decide ((0 : Int) < (i : Int)) = true := decide_eq_true (by omega)
        have hip2 : decide (0 < i) = true := decide_eq_true (by omega)
        obtain ⟨i1, hi1e⟩ : ∃ i1, i - 1 = i1 := ⟨_, rfl⟩
        have hi1 : i1 < l.length := by omega
        have hi1z : (i : Int) - 1 = (i1 : Int) := by omega
        have hi1n : (i1 : Int) < (n : Int) := by omega
        obtain ⟨b9, o9, e9, m1, -⟩ := HH.out.1 i1 hi1
        cases e9
        obtain ⟨qn, hqn⟩ : ∃ q, (l[i1]'hi1).num = q := ⟨_, rfl⟩
        rw [hqn] at m1
        have hp : p = some qn := by
          rcases HX.out.2.2.1 with h | ⟨-, h, hp⟩
          · omega
          · rw [hp, ← hqn]; simp only [hi1e]
        subst hp
        have HQ := Lib.hid hi1e
        have k4 : ∀ y : Ex W, y.w.cell? ⟨bb, o + i1 * 4, none⟩ = some (.int .i64 qn) := fun y => (HXW.out.trans y.ext).cell m1
        clear hqn m1 hi1e
        by_cases hqx : qn < x.num
        · have hqd : decide (x.num ≤ qn) = false := decide_eq_false (by omega)
          refine wp_region_ext (by kernel_rfl) (by kernel_rfl) ?_
          repeat (go_big_quiet_step (first | (go_at_call 22; refine Calls.ext_of (HB.out _))))
          refine wpQuiet_nil ?_
          rintro _ ⟨y, rfl⟩
          have HX2 := Lib.hid (HXW.out.trans y.ext)
          clear k0 k1 k2 k3 k4 HB
          go_wp2_with fail
          go_roundg g
          case measure => omega
          case rel =>
            have hR := HR.out
            rw [Bool.true_and, belowI, decide_eq_true hqx, Bool.true_and] at hR
            exact ⟨i + 1, some x.num, by omega, by go_num, hR, .inr ⟨by omega, by omega, by
              have := HX.out.2.2.2
              rw [List.getElem?_eq_getElem (by omega)] at this
              exact congrArg (fun z : En => some z.num) (Option.some.inj this).symm⟩, HX2.out⟩
        · have hqd : decide (x.num ≤ qn) = true := decide_eq_true (by omega)
          have hR := HR.out
          rw [Bool.true_and, belowI, decide_eq_false hqx, Bool.false_and] at hR
          obtain rfl : 2 = R := hR
          refine wp_region_ext (by kernel_rfl) (by kernel_rfl) ?_
          repeat (go_big_quiet_step (first | (go_at_call 22; refine Calls.ext_of (HB.out _))))
          refine wpQuiet_nil ?_
          rintro _ ⟨y, rfl⟩
          have HX2 := Lib.hid (HXW.out.trans y.ext)
          clear k0 k1 k2 k3 k4 HB
          go_wp2_with fail
          go_ret
          exact ⟨rfl, HX2.out⟩
end Go.Proofs.YtkaimeogebgofaaDoor.Xs
