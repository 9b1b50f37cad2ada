/-
  number: Int walked.
-/
import Derived.Test.YticahefindlmeaaGreatDoorNuJ
import Derived.Test.YticahefindlmeaaGreatDoorNuK
import Derived.Lib.ParseIntB
namespace Go.Proofs.YticahefindlmeaaGreatDoor.Nu
open Go.RowKit

def valF (acc : Nat) (l : List UInt8) : Nat := l.foldl (fun a c => a * 10 + (c.toNat - 48)) acc
theorem valF_cons (acc : Nat) (c : UInt8) (r : List UInt8) : valF acc (c :: r) = valF (acc * 10 + (c.toNat - 48)) r := by
  unfold valF
  rw [List.foldl_cons]
theorem valF_lt (l : List UInt8) : ∀ (acc : Nat), l.all digB = true → valF acc l < (acc + 1) * 10 ^ l.length := by
  induction l with
  | nil =>
    intro acc _
    rw [List.length_nil, Nat.pow_zero, Nat.mul_one]
    exact Nat.lt_succ_self acc
  | cons c r ih =>
    intro acc h
    rw [List.all_cons, Bool.and_eq_true] at h
    have hc := of_decide_eq_true h.1
    have ih := ih (acc * 10 + (c.toNat - 48)) h.2
    rw [valF_cons]
    refine Nat.lt_of_lt_of_le ih ?_
    rw [List.length_cons, Nat.pow_succ, ← Nat.mul_assoc, Nat.mul_right_comm]
    exact Nat.mul_le_mul_right _ (by omega)
theorem parse_ok (l : List UInt8) : ∀ (acc : Nat), l.all digB = true → (acc + 1) * 10 ^ l.length ≤ 100000000000 → Lib.parseUintM (2 ^ 64 - 1) acc l = .ok (valF acc l) := by
  induction l with
  | nil => exact fun acc _ _ => rfl
  | cons c r ih =>
    intro acc h hb
    rw [List.all_cons, Bool.and_eq_true] at h
    have hc := of_decide_eq_true h.1
    have h1 : 1 ≤ 10 ^ r.length := Nat.one_le_pow _ _ (by decide)
    rw [List.length_cons, Nat.pow_succ, ← Nat.mul_assoc, Nat.mul_right_comm] at hb
    have h2 : (acc + 1) * 10 ≤ (acc + 1) * 10 * 10 ^ r.length := Nat.le_mul_of_pos_right _ h1
    rw [Lib.parseUintM, if_pos hc, if_neg (by omega), if_neg (by omega), valF_cons]
    refine ih _ h.2 (Nat.le_trans (Nat.mul_le_mul_right _ ?_) hb)
    omega
theorem parse_int (a : List UInt8) (h : a.all digB = true) (hl : a.length ≤ 10) : Lib.parseIntB 64 (48 :: a) = .ok (valF 0 a : Nat) := by
  have hp : (0 + 1) * 10 ^ a.length ≤ 100000000000 := by
    rw [Nat.zero_add, Nat.one_mul]
    exact Nat.le_trans (Nat.pow_le_pow_right (by decide) hl) (by decide)
  have hv := valF_lt a 0 h
  have e : Lib.parseUintM (2 ^ 64 - 1) 0 (48 :: a) = .ok (valF 0 a) := by
    rw [Lib.parseUintM, if_pos (by decide), if_neg (by decide), if_neg (by decide)]
    exact parse_ok a 0 h hp
  have e2 : Lib.parseUintB 64 (48 :: a) = .ok (valF 0 a) := by
    unfold Lib.parseUintB
    rw [if_neg (by simp)]
    exact e
  have hn : ¬ ((48 : UInt8).toNat = 43 ∨ (48 : UInt8).toNat = 45) := by decide
  have hm : ¬ ((48 : UInt8).toNat = 45) := by decide
  unfold Lib.parseIntB
  simp only [if_neg hn, e2]
  have h1 : ¬ (¬ (48 : UInt8).toNat = 45 ∧ 2 ^ (64 - 1) ≤ valF 0 a) := fun h => by
    have := h.2
    have h3 : (2 : Nat) ^ (64 - 1) = 9223372036854775808 := by decide
    omega
  have h2 : ¬ ((48 : UInt8).toNat = 45 ∧ 2 ^ (64 - 1) < valF 0 a) := fun h => hm h.1
  rw [if_neg h1, if_neg h2, if_neg hm]
def intN (l : List UInt8) : Int × Int :=
  if (cutN l).kind ≠ 1 then (0, 7) else if 10 < (bareN (cutN l)).a.length then (0, 3) else
  if 2147483647 < valF 0 (bareN (cutN l)).a then (0, 3) else if (bareN (cutN l)).neg then (-(valF 0 (bareN (cutN l)).a : Nat), 0) else ((valF 0 (bareN (cutN l)).a : Nat), 0)
theorem cut_all (l : List UInt8) (h : (cutN l).kind ≠ 0) : (cutN l).a.all digB = true ∧ (cutN l).b.all digB = true := by
  unfold cutN at h ⊢
  split
  · rename_i hg
    unfold goodL at hg
    simp only [Bool.and_eq_true] at hg
    exact hg.1
  · rename_i hg
    rw [if_neg hg] at h
    exact absurd rfl h
theorem tl_all (l : List UInt8) (h : l.all digB = true) : (tl l).all digB = true := by
  rw [List.all_eq_true] at h ⊢
  exact fun x hx => h x ((List.dropWhile_sublist _).subset hx)
theorem ext_bytes (w : World) (s : ByteArray) (e : TypeId) : Ext [] w (Lib.bytesWorld w e s) :=
  ⟨rfl, rfl, rfl, by rw [Lib.bytesWorld_size]; omega, fun k hk _ => Lib.bytesWorld_at_old w _ s k hk⟩
theorem parse_walk (a : List UInt8) (h : a.all digB = true) (hl : a.length ≤ 10) (w : World) :
    Calls Tryz.prog 21 #[.string (S (48 :: a)), .int .i64 10, .int .i64 64] w fun e w' => e = .returned (.tuple #[.int .i64 (valF 0 a : Nat), .nilIface]) ∧ Ext [] w w' := by
  refine (Tryz.strconv_ParseInt_10_at64_ok (S (48 :: a)) (by rw [S_size, List.length_cons]; omega) _ (parse_int a h hl) w).mono ?_
  rintro e w' ⟨he, rfl | ⟨t, rfl⟩⟩
  · exact ⟨he, Ext.refl _ _⟩
  · exact ⟨he, ext_bytes _ _ _⟩
set_option maxRecDepth 100000 in
set_option maxHeartbeats 2000000 in
theorem int_walk (s : ByteArray) (w : World) (hs : s.size ≤ 1000000) :
    Calls Tryz.prog 9 #[.string s] w fun e w' => e = .returned (.tuple #[.int .i64 (intN (B s)).1, .int .i64 (intN (B s)).2]) ∧ Ext [] w w' := by
  have H1 := Lib.hid (fun w => cut_walk s w (by omega))
  have l1 := cut_len (B s)
  rw [B_len] at l1
  have hall := cut_all (B s)
  obtain ⟨r1, r2, hr⟩ : ∃ r1 r2, intN (B s) = (r1, r2) := ⟨_, _, rfl⟩
  have hR : (if (cutN (B s)).kind ≠ 1 then ((0 : Int), (7 : Int)) else if 10 < (bareN (cutN (B s))).a.length then (0, 3) else if 2147483647 < valF 0 (bareN (cutN (B s))).a then (0, 3) else if (bareN (cutN (B s))).neg then (-(valF 0 (bareN (cutN (B s))).a : Nat), 0) else ((valF 0 (bareN (cutN (B s))).a : Nat), 0)) = (r1, r2) := hr
  rw [hr]
  have HR := Lib.hid hR
  clear hR hr
  generalize cutN (B s) = x at *
  have b1 := bare_len x
  have HB1 := Lib.hid (fun w => bare_walk x w (by omega) (by omega))
  have hta : x.kind = 1 → (bareN x).a.all digB = true := fun h => tl_all _ (hall (by omega)).1
  have HP := Lib.hid (fun (h : x.kind = 1) (hl : (bareN x).a.length ≤ 10) w => parse_walk (bareN x).a (hta h) hl w)
  have HV := Lib.hid (fun (h : x.kind = 1) (hl : (bareN x).a.length ≤ 10) => (show valF 0 (bareN x).a < 10000000000 from Nat.lt_of_lt_of_le (valF_lt _ 0 (hta h)) (by rw [Nat.zero_add, Nat.one_mul]; exact Nat.le_trans (Nat.pow_le_pow_right (by decide) hl) (by decide))))
  have hkb : (bareN x).kind = x.kind := rfl
  have hal : (bareN x).a.length ≤ 1000000 := by omega
  generalize bareN x = bx at *
  obtain ⟨kx, nx, ax, cx⟩ := x
  obtain ⟨k3, n3, a3, c3⟩ := bx
  obtain rfl : k3 = kx := hkb
  simp only [nv_is] at H1 HB1
  simp only at HP HV HR hal
  have H48 : (⟨#[48]⟩ : ByteArray) ++ S a3 = S (48 :: a3) := by rw [show (⟨#[48]⟩ : ByteArray) = S [48] from rfl, S_app]; rfl
  have h9 : (S a3).size ≤ 1000000 := by rw [S_size]; exact hal
  have hla : (S a3).size = a3.length := S_size a3
  clear l1 b1 hall hta
  show Calls Tryz.prog 9 #[.string s] w fun e w' => e = .returned (.tuple #[.int .i64 r1, .int .i64 r2]) ∧ Ext [] w w'
  go_enter Tryz.func9, Tryz.ntmps9
  go_wp2_with fail
  refine (H1.out _).mono ?_
  rintro e w1 ⟨rfl, hx⟩
  have HX := Lib.hid hx
  clear hx H1
  have HS := Lib.hid (one_parts w1 ⟨k3, nx, ax, cx⟩)
  go_upto_region 2 with fail
  obtain ⟨g, hg⟩ : ∃ g, w1.heap.size = g := ⟨_, rfl⟩
  obtain ⟨W, hW⟩ : ∃ W, w1.alloc (.cells #[.int .i64 (k3 : Nat), .bool nx, .string (S ax), .string (S cx)] 41) = W := ⟨_, rfl⟩
  have S0 : Sep w1 W [Ob.one w1.heap.size (.cells (nvs ⟨k3, nx, ax, cx⟩) 41 (0, 0))] := by rw [← hW]; exact HS.out
  rw [hW]
  rw [hg] at S0 ⊢
  have HS := Lib.hid S0
  clear S0 hW hg
  have HFIN := Lib.hid (fun W' (h : Ext [] w1 W') => HX.out.trans h)
  clear HX
  have h0 := HS.out.get 0 rfl
  have p0 : W.cell? ⟨g, 0, none⟩ = some (.int .i64 (k3 : Nat)) := cellOf h0 0
  have p1 : W.cell? ⟨g, 1, none⟩ = some (.bool nx) := cellOf h0 1
  have p2 : W.cell? ⟨g, 2, none⟩ = some (.string (S ax)) := cellOf h0 2
  have p3 : W.cell? ⟨g, 3, none⟩ = some (.string (S cx)) := cellOf h0 3
  by_cases hk : k3 = 1
  · subst hk
    have hR := HR.out
    rw [if_neg (by simp)] at hR
    have HR := Lib.hid hR
    clear hR
    go_wp2_with fail
    refine (HB1.out _).mono ?_
    rintro e w4 ⟨rfl, hx⟩
    have HS := Lib.hid (HS.out.quiet hx)
    clear hx p0 p1 p2 p3 h0
    have h0 := HS.out.get 0 rfl
    have p0 : w4.cell? ⟨g, 0, none⟩ = some (.int .i64 1) := cellOf h0 0
    have p1 : w4.cell? ⟨g, 1, none⟩ = some (.bool nx) := cellOf h0 1
    have p2 : w4.cell? ⟨g, 2, none⟩ = some (.string (S ax)) := cellOf h0 2
    have p3 : w4.cell? ⟨g, 3, none⟩ = some (.string (S cx)) := cellOf h0 3
    have f0 : w4.frozen? ⟨g, 0, none⟩ = false := freeOf h0 0
    have f1 : w4.frozen? ⟨g, 1, none⟩ = false := freeOf h0 1
    have f2 : w4.frozen? ⟨g, 2, none⟩ = false := freeOf h0 2
    have f3 : w4.frozen? ⟨g, 3, none⟩ = false := freeOf h0 3
    have S6 := set4_sep (p := ⟨1, n3, a3, c3⟩) HS.out 0 rfl
    obtain ⟨W6, hW6⟩ : ∃ W6, set4 w4 g ⟨1, n3, a3, c3⟩ = W6 := ⟨_, rfl⟩
    rw [hW6] at S6
    have HS6 := Lib.hid S6
    clear S6
    go_upto_region 5 with fail
    replace hW6 : (((w4.setCell ⟨g, 0, none⟩ (.int .i64 1)).setCell ⟨g, 1, none⟩ (.bool n3)).setCell ⟨g, 2, none⟩ (.string (S a3))).setCell ⟨g, 3, none⟩ (.string (S c3)) = W6 := hW6
    rw [hW6]
    clear hW6 p0 p1 p2 p3 h0 f0 f1 f2 f3
    have h6 := HS6.out.get 0 rfl
    have s1 : W6.cell? ⟨g, 1, none⟩ = some (.bool n3) := cellOf h6 1
    have s2 : W6.cell? ⟨g, 2, none⟩ = some (.string (S a3)) := cellOf h6 2
    by_cases q1 : 10 < a3.length
    · have q1z : (10 : Int) < ((S a3).size : Int) := by omega
      obtain ⟨rfl, rfl⟩ := Prod.mk.inj ((if_pos q1).symm.trans HR.out)
      clear hla
      go_wp2_with fail
      exact bodyPost_ret (results_tmp2 rfl _ _ _) rfl ⟨rfl, HFIN.out _ HS6.out.ext⟩
    · have q1z : ¬ (10 : Int) < ((S a3).size : Int) := by omega
      have hR := HR.out
      rw [if_neg q1] at hR
      have HP2 := Lib.hid (HP.out (by simp) (by omega))
      have hv := HV.out (by simp) (by omega)
      generalize valF 0 a3 = v at *
      have HR := Lib.hid hR
      clear hR hla
      go_wp2_with fail
      refine (HP2.out _).mono ?_
      rintro e w7 ⟨rfl, hx⟩
      have HS7 := Lib.hid (HS6.out.quiet hx)
      clear hx s1 s2 h6
      have h7 := HS7.out.get 0 rfl
      have s1 : w7.cell? ⟨g, 1, none⟩ = some (.bool n3) := cellOf h7 1
      by_cases q2 : 2147483647 < v
      · have q2z : (2147483647 : Int) < (v : Int) := by omega
        obtain ⟨rfl, rfl⟩ := Prod.mk.inj ((if_pos q2).symm.trans HR.out)
        go_wp2_with fail
        exact bodyPost_ret (results_tmp2 rfl _ _ _) rfl ⟨rfl, HFIN.out _ HS7.out.ext⟩
      · have q2z : ¬ (2147483647 : Int) < (v : Int) := by omega
        have hR := HR.out
        rw [if_neg q2] at hR
        cases n3 with
        | true =>
          obtain ⟨rfl, rfl⟩ := Prod.mk.inj hR
          clear hR
          go_wp2_with fail
          exact bodyPost_ret (results_tmp2 rfl _ _ _) rfl ⟨rfl, HFIN.out _ HS7.out.ext⟩
        | false =>
          obtain ⟨rfl, rfl⟩ := Prod.mk.inj hR
          clear hR
          go_wp2_with fail
          exact bodyPost_ret (results_tmp2 rfl _ _ _) rfl ⟨rfl, HFIN.out _ HS7.out.ext⟩
  · obtain ⟨rfl, rfl⟩ := Prod.mk.inj ((if_pos hk).symm.trans HR.out)
    have hkb : ((k3 : Int) == 1) = false := beq_eq_false_iff_ne.2 (by omega)
    go_wp2_with fail
    exact bodyPost_ret (results_tmp2 rfl _ _ _) rfl ⟨rfl, HFIN.out _ HS.out.ext⟩
end Go.Proofs.YticahefindlmeaaGreatDoor.Nu
