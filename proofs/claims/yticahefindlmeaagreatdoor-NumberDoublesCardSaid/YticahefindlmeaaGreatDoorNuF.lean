/-
  number: Compare walked.
-/
import Derived.Test.YticahefindlmeaaGreatDoorNuE
namespace Go.Proofs.YticahefindlmeaaGreatDoor.Nu
open Go.RowKit

theorem cut_len (l : List UInt8) : (cutN l).a.length ≤ l.length ∧ (cutN l).b.length ≤ l.length := by
  have h : (sgnR l).length ≤ l.length := by
    unfold sgnR
    split
    · rw [List.length_drop]; omega
    · exact Nat.le_refl _
  unfold cutN
  split
  · have := take_le (sgnR l)
    have := aft_le (sgnR l)
    exact ⟨by show (befL _).length ≤ _; omega, by show (aftL _).length ≤ _; omega⟩
  · exact ⟨Nat.zero_le _, Nat.zero_le _⟩
theorem bare_len (p : Num) : (bareN p).a.length ≤ p.a.length ∧ (bareN p).b.length ≤ p.b.length := by
  unfold bareN tl tr Lib.trimLeftB Lib.trimRightB
  refine ⟨(List.dropWhile_sublist _).length_le, ?_⟩
  show (List.reverse _).length ≤ _
  rw [List.length_reverse]
  refine Nat.le_trans (List.dropWhile_sublist _).length_le ?_
  rw [List.length_reverse]
  exact Nat.le_refl _
theorem nv_is (p : Num) : nv p = .agg #[.int .i64 (p.kind : Nat), .bool p.neg, .string (S p.a), .string (S p.b)] := rfl
set_option maxRecDepth 100000 in
set_option maxHeartbeats 1000000 in
theorem compare_walk (s t : ByteArray) (w : World) (hs : s.size ≤ 1048576) (ht : t.size ≤ 1048576) :
    Calls Tryz.prog 8 #[.string s, .string t] w fun e w' => e = .returned (.tuple #[.int .i64 (cmpN (B s) (B t)).1, .int .i64 (cmpN (B s) (B t)).2]) ∧ Ext [] w w' := by
  have H1 := Lib.hid (fun w => cut_walk s w (by omega))
  have H2 := Lib.hid (fun w => cut_walk t w (by omega))
  have l1 := cut_len (B s)
  have l2 := cut_len (B t)
  rw [B_len] at l1 l2
  have hR : cmpN (B s) (B t) = if (cutN (B s)).kind = 0 ∨ (cutN (B t)).kind = 0 then (0, 7) else if longN (cutN (B s)) || longN (cutN (B t)) then (0, 3) else (cmpB (bareN (cutN (B s))) (bareN (cutN (B t))), 0) := rfl
  obtain ⟨r1, r2, hr⟩ : ∃ r1 r2, cmpN (B s) (B t) = (r1, r2) := ⟨_, _, rfl⟩
  rw [hr] at hR ⊢
  have HR := Lib.hid hR
  clear hR hr
  generalize cutN (B s) = x at *
  generalize cutN (B t) = y at *
  have b1 := bare_len x
  have b2 := bare_len y
  have HL1 := Lib.hid (fun w => long_walk x w (by omega) (by omega))
  have HL2 := Lib.hid (fun w => long_walk y w (by omega) (by omega))
  have HB1 := Lib.hid (fun w => bare_walk x w (by omega) (by omega))
  have HB2 := Lib.hid (fun w => bare_walk y w (by omega) (by omega))
  have HZ1 := Lib.hid (fun w => size_walk (bareN x) (bareN y) w (by omega) (by omega))
  have HZ2 := Lib.hid (fun w => size_walk (bareN y) (bareN x) w (by omega) (by omega))
  generalize hlx : longN x = lx at *
  generalize hly : longN y = ly at *
  generalize bareN x = bx at *
  generalize bareN y = by_ at *
  clear l1 l2 b1 b2 hlx hly
  obtain ⟨kx, nx, ax, cx⟩ := x
  obtain ⟨ky, ny, ay, cy⟩ := y
  obtain ⟨k3, n3, a3, c3⟩ := bx
  obtain ⟨k4, n4, a4, c4⟩ := by_
  simp only [nv_is] at H1 H2 HL1 HL2 HB1 HB2 HZ1 HZ2
  show Calls Tryz.prog 8 #[.string s, .string t] w fun e w' => e = .returned (.tuple #[.int .i64 r1, .int .i64 r2]) ∧ Ext [] w w'
  go_enter Tryz.func8, Tryz.ntmps8
  go_wp2_with fail
  refine (H1.out _).mono ?_
  rintro e w1 ⟨rfl, hx⟩
  have HX := Lib.hid hx
  clear hx
  go_wp2_with fail
  refine (H2.out _).mono ?_
  rintro e w2 ⟨rfl, hx⟩
  have HX := Lib.hid (HX.out.trans hx)
  clear hx H1 H2
  have HS := Lib.hid (two_parts w2 ⟨kx, nx, ax, cx⟩ ⟨ky, ny, ay, cy⟩)
  go_upto_region 2 with fail
  obtain ⟨g, hg⟩ : ∃ g, w2.heap.size = g := ⟨_, rfl⟩
  obtain ⟨W, hW⟩ : ∃ W, (w2.alloc (.cells #[.int .i64 (kx : Nat), .bool nx, .string (S ax), .string (S cx)] 41)).alloc (.cells #[.int .i64 (ky : Nat), .bool ny, .string (S ay), .string (S cy)] 41) = W := ⟨_, rfl⟩
  have S0 : Sep w2 W [Ob.one (w2.heap.size + 1) (.cells (nvs ⟨ky, ny, ay, cy⟩) 41 (0, 0)), Ob.one w2.heap.size (.cells (nvs ⟨kx, nx, ax, cx⟩) 41 (0, 0))] := by rw [← hW]; exact HS.out
  rw [hW]
  rw [hg] at S0 ⊢
  have HS := Lib.hid S0
  clear S0 hW hg
  have HFIN := Lib.hid (fun W' (h : Ext [] w2 W') => HX.out.trans h)
  have h0 := HS.out.get 1 rfl
  have h1 := HS.out.get 0 rfl
  have p0 : W.cell? ⟨g, 0, none⟩ = some (.int .i64 (kx : Nat)) := cellOf h0 0
  have p1 : W.cell? ⟨g, 1, none⟩ = some (.bool nx) := cellOf h0 1
  have p2 : W.cell? ⟨g, 2, none⟩ = some (.string (S ax)) := cellOf h0 2
  have p3 : W.cell? ⟨g, 3, none⟩ = some (.string (S cx)) := cellOf h0 3
  have q0 : W.cell? ⟨g + 1, 0, none⟩ = some (.int .i64 (ky : Nat)) := cellOf h1 0
  have q1 : W.cell? ⟨g + 1, 1, none⟩ = some (.bool ny) := cellOf h1 1
  have q2 : W.cell? ⟨g + 1, 2, none⟩ = some (.string (S ay)) := cellOf h1 2
  have q3 : W.cell? ⟨g + 1, 3, none⟩ = some (.string (S cy)) := cellOf h1 3
  by_cases hkx : kx = 0
  · subst hkx
    obtain ⟨rfl, rfl⟩ : r1 = 0 ∧ r2 = 7 := Prod.mk.inj (HR.out.trans (if_pos (.inl rfl)))
    go_wp2_with fail
    exact bodyPost_ret (results_tmp2 rfl _ _ _) rfl ⟨rfl, HFIN.out _ HS.out.ext⟩
  have kxb : ((kx : Int) == 0) = false := beq_eq_false_iff_ne.2 (by omega)
  by_cases hky : ky = 0
  · subst hky
    obtain ⟨rfl, rfl⟩ : r1 = 0 ∧ r2 = 7 := Prod.mk.inj (HR.out.trans (if_pos (.inr rfl)))
    go_wp2_with fail
    exact bodyPost_ret (results_tmp2 rfl _ _ _) rfl ⟨rfl, HFIN.out _ HS.out.ext⟩
  have kyb : ((ky : Int) == 0) = false := beq_eq_false_iff_ne.2 (by omega)
  have hR := HR.out
  rw [if_neg (fun h => h.elim hkx hky)] at hR
  have HR := Lib.hid hR
  clear hR hkx hky
  go_wp2_with fail
  refine (HL1.out _).mono ?_
  rintro e w3 ⟨rfl, hx⟩
  have HS := Lib.hid (HS.out.quiet hx)
  clear hx
  clear p0 p1 p2 p3 q0 q1 q2 q3 h0 h1
  have h0 := HS.out.get 1 rfl
  have h1 := HS.out.get 0 rfl
  have p0 : w3.cell? ⟨g, 0, none⟩ = some (.int .i64 (kx : Nat)) := cellOf h0 0
  have p1 : w3.cell? ⟨g, 1, none⟩ = some (.bool nx) := cellOf h0 1
  have p2 : w3.cell? ⟨g, 2, none⟩ = some (.string (S ax)) := cellOf h0 2
  have p3 : w3.cell? ⟨g, 3, none⟩ = some (.string (S cx)) := cellOf h0 3
  have q0 : w3.cell? ⟨g + 1, 0, none⟩ = some (.int .i64 (ky : Nat)) := cellOf h1 0
  have q1 : w3.cell? ⟨g + 1, 1, none⟩ = some (.bool ny) := cellOf h1 1
  have q2 : w3.cell? ⟨g + 1, 2, none⟩ = some (.string (S ay)) := cellOf h1 2
  have q3 : w3.cell? ⟨g + 1, 3, none⟩ = some (.string (S cy)) := cellOf h1 3
  cases lx with
  | true =>
    obtain ⟨rfl, rfl⟩ : r1 = 0 ∧ r2 = 3 := Prod.mk.inj (HR.out.trans (if_pos rfl))
    go_wp2_with fail
    exact bodyPost_ret (results_tmp2 rfl _ _ _) rfl ⟨rfl, HFIN.out _ HS.out.ext⟩
  | false =>
    go_wp2_with fail
    refine (HL2.out _).mono ?_
    rintro e w4 ⟨rfl, hx⟩
    have HS := Lib.hid (HS.out.quiet hx)
    clear hx
    clear p0 p1 p2 p3 q0 q1 q2 q3 h0 h1
    cases ly with
    | true =>
      obtain ⟨rfl, rfl⟩ : r1 = 0 ∧ r2 = 3 := Prod.mk.inj (HR.out.trans (if_pos rfl))
      go_wp2_with fail
      exact bodyPost_ret (results_tmp2 rfl _ _ _) rfl ⟨rfl, HFIN.out _ HS.out.ext⟩
    | false =>
      obtain ⟨hr1, rfl⟩ : r1 = _ ∧ r2 = 0 := Prod.mk.inj (HR.out.trans (if_neg (by simp)))
      have HR := Lib.hid hr1
      clear hr1
      go_wp2_with fail
      have h0 := HS.out.get 1 rfl
      have h1 := HS.out.get 0 rfl
      have p0 : ∀ y : Ex w4, y.w.cell? ⟨g, 0, none⟩ = some (.int .i64 (kx : Nat)) := fun y => cellOf (load_parts_ex h0 y) 0
      have p1 : ∀ y : Ex w4, y.w.cell? ⟨g, 1, none⟩ = some (.bool nx) := fun y => cellOf (load_parts_ex h0 y) 1
      have p2 : ∀ y : Ex w4, y.w.cell? ⟨g, 2, none⟩ = some (.string (S ax)) := fun y => cellOf (load_parts_ex h0 y) 2
      have p3 : ∀ y : Ex w4, y.w.cell? ⟨g, 3, none⟩ = some (.string (S cx)) := fun y => cellOf (load_parts_ex h0 y) 3
      have q0 : ∀ y : Ex w4, y.w.cell? ⟨g + 1, 0, none⟩ = some (.int .i64 (ky : Nat)) := fun y => cellOf (load_parts_ex h1 y) 0
      have q1 : ∀ y : Ex w4, y.w.cell? ⟨g + 1, 1, none⟩ = some (.bool ny) := fun y => cellOf (load_parts_ex h1 y) 1
      have q2 : ∀ y : Ex w4, y.w.cell? ⟨g + 1, 2, none⟩ = some (.string (S ay)) := fun y => cellOf (load_parts_ex h1 y) 2
      have q3 : ∀ y : Ex w4, y.w.cell? ⟨g + 1, 3, none⟩ = some (.string (S cy)) := fun y => cellOf (load_parts_ex h1 y) 3
      refine wp_region_quiet_tail (C := fun w' => ∃ x : Ex w4, w' = x.w) 4 (by kernel_rfl) (by kernel_rfl) ⟨Ex.mk _ ((Ext.refl [] w4).drew), rfl⟩ ?_
      simp only [List.take_succ_cons, List.take_zero, List.drop_succ_cons, List.drop_zero]
      go_big_quiet_step (fail)
      go_big_quiet_step (first | (go_at_call 19; refine Calls.ext_of (HB1.out _)))
      go_big_quiet_step (fail)
      go_big_quiet_step (first | (go_at_call 19; refine Calls.ext_of (HB2.out _)))
      refine wpQuiet_nil ?_
      rintro _ ⟨y, rfl⟩
      clear p0 p1 p2 p3 q0 q1 q2 q3 h0 h1
      obtain ⟨W5, hW5⟩ : ∃ W5, y.w = W5 := ⟨_, rfl⟩
      have hx5 := y.ext
      rw [hW5] at hx5
      rw [hW5]
      have HS := Lib.hid (HS.out.quiet hx5)
      clear hx5 hW5 y HB1 HB2 HL1 HL2
      have h0 := HS.out.get 1 rfl
      have h1 := HS.out.get 0 rfl
      have p0 : W5.cell? ⟨g, 0, none⟩ = some (.int .i64 (kx : Nat)) := cellOf h0 0
      have fp0 : W5.frozen? ⟨g, 0, none⟩ = false := freeOf h0 0
      have p1 : W5.cell? ⟨g, 1, none⟩ = some (.bool nx) := cellOf h0 1
      have fp1 : W5.frozen? ⟨g, 1, none⟩ = false := freeOf h0 1
      have p2 : W5.cell? ⟨g, 2, none⟩ = some (.string (S ax)) := cellOf h0 2
      have fp2 : W5.frozen? ⟨g, 2, none⟩ = false := freeOf h0 2
      have p3 : W5.cell? ⟨g, 3, none⟩ = some (.string (S cx)) := cellOf h0 3
      have fp3 : W5.frozen? ⟨g, 3, none⟩ = false := freeOf h0 3
      have q0 : W5.cell? ⟨g + 1, 0, none⟩ = some (.int .i64 (ky : Nat)) := cellOf h1 0
      have fq0 : W5.frozen? ⟨g + 1, 0, none⟩ = false := freeOf h1 0
      have q1 : W5.cell? ⟨g + 1, 1, none⟩ = some (.bool ny) := cellOf h1 1
      have fq1 : W5.frozen? ⟨g + 1, 1, none⟩ = false := freeOf h1 1
      have q2 : W5.cell? ⟨g + 1, 2, none⟩ = some (.string (S ay)) := cellOf h1 2
      have fq2 : W5.frozen? ⟨g + 1, 2, none⟩ = false := freeOf h1 2
      have q3 : W5.cell? ⟨g + 1, 3, none⟩ = some (.string (S cy)) := cellOf h1 3
      have fq3 : W5.frozen? ⟨g + 1, 3, none⟩ = false := freeOf h1 3
      have S6 := set4_sep (p := ⟨k4, n4, a4, c4⟩) (set4_sep (p := ⟨k3, n3, a3, c3⟩) HS.out 1 rfl) 0 rfl
      obtain ⟨W6, hW6⟩ : ∃ W6, set4 (set4 W5 g ⟨k3, n3, a3, c3⟩) (g + 1) ⟨k4, n4, a4, c4⟩ = W6 := ⟨_, rfl⟩
      rw [hW6] at S6
      simp only [set4] at hW6
      have HS6 := Lib.hid S6
      clear S6
      have h6 := HS6.out.get 1 rfl
      have h7 := HS6.out.get 0 rfl
      have s0 : W6.cell? ⟨g, 0, none⟩ = some (.int .i64 (k3 : Nat)) := cellOf h6 0
      have s1 : W6.cell? ⟨g, 1, none⟩ = some (.bool n3) := cellOf h6 1
      have s2 : W6.cell? ⟨g, 2, none⟩ = some (.string (S a3)) := cellOf h6 2
      have s3 : W6.cell? ⟨g, 3, none⟩ = some (.string (S c3)) := cellOf h6 3
      have t0 : W6.cell? ⟨g + 1, 0, none⟩ = some (.int .i64 (k4 : Nat)) := cellOf h7 0
      have t1 : W6.cell? ⟨g + 1, 1, none⟩ = some (.bool n4) := cellOf h7 1
      have t2 : W6.cell? ⟨g + 1, 2, none⟩ = some (.string (S a4)) := cellOf h7 2
      have t3 : W6.cell? ⟨g + 1, 3, none⟩ = some (.string (S c4)) := cellOf h7 3
      cases n3 with
      | true =>
        cases n4 with
        | true =>
          obtain rfl : r1 = sizeN ⟨k4, true, a4, c4⟩ ⟨k3, true, a3, c3⟩ := HR.out
          go_wp2_with fail
          refine (HZ2.out _).mono ?_
          rintro e w8 ⟨rfl, hx⟩
          have HE := Lib.hid hx
          clear hx
          go_wp2_with fail
          exact bodyPost_ret (results_tmp2 rfl _ _ _) rfl ⟨rfl, HFIN.out _ (HS6.out.ext.trans HE.out)⟩
        | false =>
          obtain rfl : r1 = -1 := HR.out
          go_wp2_with fail
          exact bodyPost_ret (results_tmp2 rfl _ _ _) rfl ⟨rfl, HFIN.out _ (HS6.out.ext)⟩
      | false =>
        cases n4 with
        | true =>
          obtain rfl : r1 = 1 := HR.out
          go_wp2_with fail
          exact bodyPost_ret (results_tmp2 rfl _ _ _) rfl ⟨rfl, HFIN.out _ (HS6.out.ext)⟩
        | false =>
          obtain rfl : r1 = sizeN ⟨k3, false, a3, c3⟩ ⟨k4, false, a4, c4⟩ := HR.out
          go_wp2_with fail
          refine (HZ1.out _).mono ?_
          rintro e w8 ⟨rfl, hx⟩
          have HE := Lib.hid hx
          clear hx
          go_wp2_with fail
          exact bodyPost_ret (results_tmp2 rfl _ _ _) rfl ⟨rfl, HFIN.out _ (HS6.out.ext.trans HE.out)⟩
end Go.Proofs.YticahefindlmeaaGreatDoor.Nu
