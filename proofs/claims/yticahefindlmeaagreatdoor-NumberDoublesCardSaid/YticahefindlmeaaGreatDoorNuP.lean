/-
  number: Near walked.
-/
import Derived.Test.YticahefindlmeaaGreatDoorNuM
namespace Go.Proofs.YticahefindlmeaaGreatDoor.Nu
open Go.RowKit

theorem parse_ok15 (l : List UInt8) : ∀ (acc : Nat), l.all digB = true → (acc + 1) * 10 ^ l.length ≤ 10000000000000000 → Lib.parseUintM (2 ^ 64 - 1) acc l = .ok (valF acc l) := by
  induction l with
  | nil => exact fun acc _ _ => rfl
  | cons c r ih =>
    intro acc h hb
    rw [List.all_cons, Bool.and_eq_true] at h
    have hc := of_decide_eq_true h.1
    have h1 : 1 ≤ 10 ^ r.length := Nat.one_le_pow _ _ (by decide)
    rw [List.length_cons, Nat.pow_succ, ← Nat.mul_assoc, Nat.mul_right_comm] at hb
    have h2 : (acc + 1) * 10 ≤ (acc + 1) * 10 * 10 ^ r.length := Nat.le_mul_of_pos_right _ h1
    rw [Lib.parseUintM, if_pos hc, if_neg (by omega), if_neg (by omega), valF_cons]
    refine ih _ h.2 (Nat.le_trans (Nat.mul_le_mul_right _ ?_) hb)
    omega
theorem parse_int15 (a : List UInt8) (h : a.all digB = true) (hl : a.length ≤ 15) : Lib.parseIntB 64 (48 :: a) = .ok (valF 0 a : Nat) := by
  have hp : (0 + 1) * 10 ^ a.length ≤ 10000000000000000 := by
    rw [Nat.zero_add, Nat.one_mul]
    exact Nat.le_trans (Nat.pow_le_pow_right (by decide) hl) (by decide)
  have hv := valF_lt a 0 h
  have e : Lib.parseUintM (2 ^ 64 - 1) 0 (48 :: a) = .ok (valF 0 a) := by
    rw [Lib.parseUintM, if_pos (by decide), if_neg (by decide), if_neg (by decide)]
    exact parse_ok15 a 0 h hp
  have e2 : Lib.parseUintB 64 (48 :: a) = .ok (valF 0 a) := by
    unfold Lib.parseUintB
    rw [if_neg (by simp)]
    exact e
  have hn : ¬ ((48 : UInt8).toNat = 43 ∨ (48 : UInt8).toNat = 45) := by decide
  have hm : ¬ ((48 : UInt8).toNat = 45) := by decide
  unfold Lib.parseIntB
  simp only [if_neg hn, e2]
  have h1 : ¬ (¬ (48 : UInt8).toNat = 45 ∧ 2 ^ (64 - 1) ≤ valF 0 a) := fun h => by
    have := h.2
    have h3 : (2 : Nat) ^ (64 - 1) = 9223372036854775808 := by decide
    omega
  have h2 : ¬ ((48 : UInt8).toNat = 45 ∧ 2 ^ (64 - 1) < valF 0 a) := fun h => hm h.1
  rw [if_neg h1, if_neg h2, if_neg hm]
theorem parse_walk15 (a : List UInt8) (h : a.all digB = true) (hl : a.length ≤ 15) (w : World) :
    Calls Tryz.prog 21 #[.string (S (48 :: a)), .int .i64 10, .int .i64 64] w fun e w' => e = .returned (.tuple #[.int .i64 (valF 0 a : Nat), .nilIface]) ∧ Ext [] w w' := by
  refine (Tryz.strconv_ParseInt_10_at64_ok (S (48 :: a)) (by rw [S_size, List.length_cons]; omega) _ (parse_int15 a h hl) w).mono ?_
  rintro e w' ⟨he, rfl | ⟨t, rfl⟩⟩
  · exact ⟨he, Ext.refl _ _⟩
  · exact ⟨he, ext_bytes _ _ _⟩
/-- the digits that Near reads -/
def digN (l : List UInt8) : List UInt8 := tl ((bareN (cutN l)).a ++ (bareN (cutN l)).b)
theorem tr_all (l : List UInt8) (h : l.all digB = true) : (tr l).all digB = true := by
  rw [List.all_eq_true] at h ⊢
  intro x hx
  refine h x ?_
  unfold tr Lib.trimRightB at hx
  exact List.mem_reverse.1 ((List.dropWhile_sublist _).subset (List.mem_reverse.1 hx))
/-- what Near answers of a number that is no nonsense and not long -/
def NearOk (l : List UInt8) (r1 : Nat) (r2 : Int) : Prop :=
  (15 < (digN l).length ∧ r1 = 0 ∧ r2 = 3) ∨
  ((digN l).length ≤ 15 ∧ (bareN (cutN l)).b.length < 10 ∧ r2 = 0 ∧ ∃ q, FloatKind.f64.format.div (floatOfInt .f64 (valF 0 (digN l) : Nat)) (tenW.getD (bareN (cutN l)).b.length 0) = some q ∧
    r1 = if (bareN (cutN l)).neg then Op.negFloat .f64 q else q)
set_option maxRecDepth 100000 in
set_option maxHeartbeats 2000000 in
theorem near_walk (s : ByteArray) (w : World) (hs : s.size ≤ 1000000) (hk : (cutN (B s)).kind ≠ 0) (hlg : longN (cutN (B s)) = false) (r1 : Nat) (r2 : Int) (hr : NearOk (B s) r1 r2) (hw : Tabs w) :
    Calls Tryz.prog 11 #[.string s] w fun e w' => e = .returned (.tuple #[.float .f64 r1, .int .i64 r2]) ∧ Ext [] w w' := by
  have H1 := Lib.hid (fun w => cut_walk s w (by omega))
  have l1 := cut_len (B s)
  rw [B_len] at l1
  have hall := cut_all (B s) hk
  have hR : NearOk (B s) r1 r2 := hr
  unfold NearOk digN at hR
  clear hr
  have HR := Lib.hid hR
  clear hR
  generalize cutN (B s) = x at *
  have b1 := bare_len x
  have HB1 := Lib.hid (fun w => bare_walk x w (by omega) (by omega))
  have HLG := Lib.hid (fun w => long_walk x w (by omega) (by omega))
  rw [hlg] at HLG
  have hta : (tl ((bareN x).a ++ (bareN x).b)).all digB = true := by
    refine tl_all _ ?_
    rw [List.all_append, Bool.and_eq_true]
    exact ⟨tl_all _ hall.1, tr_all _ hall.2⟩
  have hkb : (bareN x).kind = x.kind := rfl
  have hal : (bareN x).a.length ≤ 1000000 := by omega
  have hbl : (bareN x).b.length ≤ 1000000 := by omega
  generalize bareN x = bx at *
  obtain ⟨kx, nx, ax, cx⟩ := x
  obtain ⟨k3, n3, a3, c3⟩ := bx
  obtain rfl : k3 = kx := hkb
  simp only [nv_is] at H1 HB1 HLG
  simp only at HR hal hbl hta hk
  have HTL := Lib.hid (fun w => show Calls Tryz.prog 23 #[.string (S a3 ++ S c3), .string ⟨#[48]⟩] w fun e w' => e = .returned (.string (S (tl (a3 ++ c3)))) ∧ w' = w by
    rw [S_app]
    exact Tryz.strings_TrimLeft_one (S (a3 ++ c3)) 48 (by decide) w)
  have HP := Lib.hid (fun (hl : (tl (a3 ++ c3)).length ≤ 15) w => parse_walk15 (tl (a3 ++ c3)) hta hl w)
  have hdl : (tl (a3 ++ c3)).length ≤ 2000000 := by
    refine Nat.le_trans (List.dropWhile_sublist _).length_le ?_
    rw [List.length_append]
    omega
  generalize tl (a3 ++ c3) = d at *
  have H48 : (⟨#[48]⟩ : ByteArray) ++ S d = S (48 :: d) := by rw [show (⟨#[48]⟩ : ByteArray) = S [48] from rfl, S_app]; rfl
  have h9 : (S a3).size ≤ 1000000 := by rw [S_size]; exact hal
  have h10 : (S c3).size ≤ 1000000 := by rw [S_size]; exact hbl
  have h11 : (S d).size ≤ 2000000 := by rw [S_size]; exact hdl
  have hld : (S d).size = d.length := S_size d
  have hlc : (S c3).size = c3.length := S_size c3
  have hkb : ((k3 : Int) == 0) = false := beq_eq_false_iff_ne.2 (by omega)
  have HW := Lib.hid hw
  clear l1 b1 hall hta hw hlg
  show Calls Tryz.prog 11 #[.string s] w fun e w' => e = .returned (.tuple #[.float .f64 r1, .int .i64 r2]) ∧ Ext [] w w'
  go_enter Tryz.func11, Tryz.ntmps11
  go_wp2_with fail
  refine (H1.out _).mono ?_
  rintro e w1 ⟨rfl, hx⟩
  have HX := Lib.hid hx
  clear hx H1
  have HS := Lib.hid (one_parts w1 ⟨k3, nx, ax, cx⟩)
  go_upto_region 2 with fail
  obtain ⟨g, hg⟩ : ∃ g, w1.heap.size = g := ⟨_, rfl⟩
  obtain ⟨W, hW⟩ : ∃ W, w1.alloc (.cells #[.int .i64 (k3 : Nat), .bool nx, .string (S ax), .string (S cx)] 41) = W := ⟨_, rfl⟩
  have S0 : Sep w1 W [Ob.one w1.heap.size (.cells (nvs ⟨k3, nx, ax, cx⟩) 41 (0, 0))] := by rw [← hW]; exact HS.out
  rw [hW]
  rw [hg] at S0 ⊢
  have HS := Lib.hid S0
  clear S0 hW hg
  have HFIN := Lib.hid (fun W' (h : Ext [] w1 W') => HX.out.trans h)
  have h0 := HS.out.get 0 rfl
  have p0 : W.cell? ⟨g, 0, none⟩ = some (.int .i64 (k3 : Nat)) := cellOf h0 0
  have p1 : W.cell? ⟨g, 1, none⟩ = some (.bool nx) := cellOf h0 1
  have p2 : W.cell? ⟨g, 2, none⟩ = some (.string (S ax)) := cellOf h0 2
  have p3 : W.cell? ⟨g, 3, none⟩ = some (.string (S cx)) := cellOf h0 3
  go_wp2_with fail
  refine (HLG.out _).mono ?_
  rintro e w3 ⟨rfl, hx⟩
  have HS := Lib.hid (HS.out.quiet hx)
  clear hx p0 p1 p2 p3 h0 HLG
  have h0 := HS.out.get 0 rfl
  have p0 : w3.cell? ⟨g, 0, none⟩ = some (.int .i64 (k3 : Nat)) := cellOf h0 0
  have p1 : w3.cell? ⟨g, 1, none⟩ = some (.bool nx) := cellOf h0 1
  have p2 : w3.cell? ⟨g, 2, none⟩ = some (.string (S ax)) := cellOf h0 2
  have p3 : w3.cell? ⟨g, 3, none⟩ = some (.string (S cx)) := cellOf h0 3
  go_wp2_with fail
  refine (HB1.out _).mono ?_
  rintro e w4 ⟨rfl, hx⟩
  have HS := Lib.hid (HS.out.quiet hx)
  clear hx p0 p1 p2 p3 h0 HB1
  have h0 := HS.out.get 0 rfl
  have p0 : w4.cell? ⟨g, 0, none⟩ = some (.int .i64 (k3 : Nat)) := cellOf h0 0
  have p1 : w4.cell? ⟨g, 1, none⟩ = some (.bool nx) := cellOf h0 1
  have p2 : w4.cell? ⟨g, 2, none⟩ = some (.string (S ax)) := cellOf h0 2
  have p3 : w4.cell? ⟨g, 3, none⟩ = some (.string (S cx)) := cellOf h0 3
  have f0 : w4.frozen? ⟨g, 0, none⟩ = false := freeOf h0 0
  have f1 : w4.frozen? ⟨g, 1, none⟩ = false := freeOf h0 1
  have f2 : w4.frozen? ⟨g, 2, none⟩ = false := freeOf h0 2
  have f3 : w4.frozen? ⟨g, 3, none⟩ = false := freeOf h0 3
  have S6 := set4_sep (p := ⟨k3, n3, a3, c3⟩) HS.out 0 rfl
  obtain ⟨W6, hW6⟩ : ∃ W6, set4 w4 g ⟨k3, n3, a3, c3⟩ = W6 := ⟨_, rfl⟩
  rw [hW6] at S6
  have HS6 := Lib.hid S6
  clear S6
  go_upto_region 7 with fail
  replace hW6 : (((w4.setCell ⟨g, 0, none⟩ (.int .i64 (k3 : Nat))).setCell ⟨g, 1, none⟩ (.bool n3)).setCell ⟨g, 2, none⟩ (.string (S a3))).setCell ⟨g, 3, none⟩ (.string (S c3)) = W6 := hW6
  rw [hW6]
  clear hW6 p0 p1 p2 p3 h0 f0 f1 f2 f3
  have h6 := HS6.out.get 0 rfl
  have s1 : W6.cell? ⟨g, 1, none⟩ = some (.bool n3) := cellOf h6 1
  have s2 : W6.cell? ⟨g, 2, none⟩ = some (.string (S a3)) := cellOf h6 2
  have s3 : W6.cell? ⟨g, 3, none⟩ = some (.string (S c3)) := cellOf h6 3
  go_wp2_with fail
  refine (HTL.out _).mono ?_
  rintro e w7 ⟨rfl, hww⟩
  subst hww
  rcases HR.out with ⟨q1, rfl, rfl⟩ | ⟨q1, q2, rfl, q, hq, rfl⟩
  · have q1z : (15 : Int) < ((S d).size : Int) := by omega
    clear hld
    go_wp2_with fail
    exact bodyPost_ret (results_tmp2 rfl _ _ _) rfl ⟨rfl, HFIN.out _ HS6.out.ext⟩
  · have q1z : ¬ (15 : Int) < ((S d).size : Int) := by omega
    have q2z : ¬ (22 : Int) < ((S c3).size : Int) := by omega
    have hc9 : ((S c3).size : Int) = (c3.length : Int) := by omega
    have HP2 := Lib.hid (HP.out q1)
    have HT := Lib.hid (fun w hw => ten_walk c3.length q2 w hw)
    have hquo := fun w => run_float_arith (P := Tryz.prog) w .quo 32 .f64 _ _ _ hq
    have hneg := fun w => show Sem.run Tryz.prog (Op.unary .neg (.float .f64 q)) w = .ok (.float .f64 (Op.negFloat .f64 q)) w from rfl
    generalize valF 0 d = v at *
    generalize tenW.getD c3.length 0 = T at *
    clear hld hq HR HP
    go_wp2_with fail
    refine (HP2.out _).mono ?_
    rintro e w8 ⟨rfl, hx⟩
    have HS7 := Lib.hid (HS6.out.quiet hx)
    clear hx s1 s2 s3 h6
    have h7 := HS7.out.get 0 rfl
    have s1 : w8.cell? ⟨g, 1, none⟩ = some (.bool n3) := cellOf h7 1
    have s3 : w8.cell? ⟨g, 3, none⟩ = some (.string (S c3)) := cellOf h7 3
    go_wp2_with fail
    refine (HT.out _ (HW.out.ext (HFIN.out _ HS7.out.ext))).mono ?_
    rintro e w9 ⟨rfl, hx⟩
    have HS8 := Lib.hid (HS7.out.quiet hx)
    clear hx s1 s3 h7
    have h8 := HS8.out.get 0 rfl
    have s1 : w9.cell? ⟨g, 1, none⟩ = some (.bool n3) := cellOf h8 1
    cases n3 with
    | true =>
      go_wp2_with fail
      exact bodyPost_ret (results_tmp2 rfl _ _ _) rfl ⟨rfl, HFIN.out _ HS8.out.ext⟩
    | false =>
      go_wp2_with fail
      exact bodyPost_ret (results_tmp2 rfl _ _ _) rfl ⟨rfl, HFIN.out _ HS8.out.ext⟩
end Go.Proofs.YticahefindlmeaaGreatDoor.Nu
