/-
  number: Of walked.
-/
import Derived.Test.YticahefindlmeaaGreatDoorNuH
import Derived.Lib.Repeat
namespace Go.Proofs.YticahefindlmeaaGreatDoor.Nu
open Go.RowKit

def padN (d : List UInt8) (pl : Nat) : List UInt8 := List.replicate (pl + 1 - d.length) 48 ++ d
def ofT (m : Int) (pl : Nat) : List UInt8 := (if m < 0 then [45] else []) ++ (padN (Lib.decDigits m.natAbs) pl).take ((padN (Lib.decDigits m.natAbs) pl).length - pl) ++ [46] ++ (padN (Lib.decDigits m.natAbs) pl).drop ((padN (Lib.decDigits m.natAbs) pl).length - pl)
/-- what Of asks of its double, and what comes of it -/
structure OfOk (x pl : Nat) (m : Int) : Prop where
  few : pl < 10
  nan : (FloatKind.f64.format.order x x != some Ordering.eq) = false
  inf : ∃ y : Nat, bits .andNot .u64 (x : Int) 9223372036854775808 = (y : Int) ∧ (FloatKind.f64.format.order y 9218868437227405311 == some Ordering.gt) = false
  low : FloatKind.f64.format.order x 13970166044103278592 = some Ordering.gt
  high : FloatKind.f64.format.order x 4746794007248502784 = some Ordering.lt
  val : ∃ (y z : Nat) (s : Bool) (g : Nat) (e : Int), FloatKind.f64.format.mul x (tenW.getD pl 0) = some y ∧ FloatKind.f64.decode y = .number s g e ∧ FloatKind.f64.encode ((Ieee.Datum.number s g e).integral .even) = z ∧ floatToIntVal .f64 z .i64 = some m
  small : m.natAbs < 1000000000000000000
theorem dec_pos (u : Nat) : 1 ≤ (Lib.decDigits u).length := by
  rw [Lib.decDigits]
  split <;> simp
theorem dec_len' : ∀ (k u : Nat), u < 10 ^ (k + 1) → (Lib.decDigits u).length ≤ k + 1
  | 0, u, h => by
    rw [Lib.decDigits, dif_pos (by simpa using h)]
    simp
  | k + 1, u, h => by
    rw [Lib.decDigits]
    split
    · simp
    · rw [List.length_append]
      have := dec_len' k (u / 10) (by rw [Nat.pow_succ] at h; omega)
      simp only [List.length_cons, List.length_nil]
      omega
theorem dec_len {u : Nat} (h : u < 1000000000000000000) : (Lib.decDigits u).length ≤ 18 := dec_len' 17 u h
set_option maxRecDepth 100000 in
set_option maxHeartbeats 2000000 in
theorem of_walk (x pl : Nat) (m : Int) (h : OfOk x pl m) (w : World) (hw : Tabs w) :
    Calls Tryz.prog 12 #[.float .f64 x, .int .i64 pl] w fun e w' => e = .returned (.tuple #[.string (S (realN (ofT m pl)).1), .int .i64 (realN (ofT m pl)).2]) ∧ Ext [] w w' := by
  obtain ⟨hpl, hnan, ⟨xa, hxa, hinf⟩, hlow, hhigh, ⟨y, z, s, g, e, hy, hdec, hz, hm⟩, hsm⟩ := h
  obtain ⟨r, hr⟩ : ∃ r, realN (ofT m pl) = r := ⟨_, rfl⟩
  rw [hr]
  have HRR := Lib.hid hr
  clear hr
  have HN := Lib.hid (fun w => isnan_walk x false hnan w)
  have HI := Lib.hid (fun w => isinf_walk x xa hxa hinf w)
  have hmul := fun w => run_float_arith (P := Tryz.prog) w .mul 32 .f64 x (tenW.getD pl 0) y hy
  have heven := fun w => run_even y z s g e hdec hz w
  have hcv := fun w => run_convert_float_int (P := Tryz.prog) w 32 2 .f64 .i64 z m (by kernel_rfl) Tryz.underlying2 hm
  have q1 : (FloatKind.f64.format.order x 13970166044103278592 == some Ordering.lt) = false := by rw [hlow]; rfl
  have q2 : (FloatKind.f64.format.order x 13970166044103278592 == some Ordering.eq) = false := by rw [hlow]; rfl
  have q3 : (FloatKind.f64.format.order x 4746794007248502784 == some Ordering.gt) = false := by rw [hhigh]; rfl
  have q4 : (FloatKind.f64.format.order x 4746794007248502784 == some Ordering.eq) = false := by rw [hhigh]; rfl
  have hpz : ¬ (9 : Int) < (pl : Int) := by omega
  have HT := Lib.hid (fun w hw => ten_walk pl hpl w hw)
  have HW := Lib.hid hw
  have HFM := Lib.hid (fun w hw => format_walk (m.natAbs : Int) (by omega) (by omega) w hw)
  have ht9 : itxt (m.natAbs : Int) = Lib.decDigits m.natAbs := by
    unfold itxt Lib.itoa
    rw [if_neg (by omega)]
    rfl
  rw [ht9] at HFM
  clear hnan hxa hinf hlow hhigh hy hdec hz hm hw ht9
  generalize tenW.getD pl 0 = T at *
  go_enter Tryz.func12, Tryz.ntmps12
  go_wp2_with fail
  refine (HN.out _).mono ?_
  rintro e w1 ⟨rfl, rfl⟩
  go_wp2_with fail
  refine (HI.out _).mono ?_
  rintro e w1 ⟨rfl, rfl⟩
  go_wp2_with fail
  refine (HT.out _ HW.out).mono ?_
  rintro e w1 ⟨rfl, hx⟩
  have HW := Lib.hid (HW.out.ext hx)
  have HX := Lib.hid hx
  clear hx HN HI HT
  obtain ⟨D, hD⟩ : ∃ D, Lib.decDigits m.natAbs = D := ⟨_, rfl⟩
  have hDl : D.length ≤ 18 := by rw [← hD]; exact dec_len hsm
  have hD0 : 1 ≤ D.length := by rw [← hD]; exact dec_pos _
  obtain ⟨sg, hsg⟩ : ∃ sg : List UInt8, (if m < 0 then [45] else []) = sg := ⟨_, rfl⟩
  have hs9 : (S sg).size ≤ 1 := by rw [← hsg]; split <;> decide
  have hR : ofT m pl = sg ++ (padN D pl).take ((padN D pl).length - pl) ++ [46] ++ (padN D pl).drop ((padN D pl).length - pl) := by unfold ofT; rw [hD, hsg]
  rw [hD] at HFM
  obtain ⟨c, hc⟩ : ∃ c, pl + 1 - D.length = c := ⟨_, rfl⟩
  have hcz : max (0 : Int) ((pl : Int) + 1 - ((S D).size : Int)) = (c : Int) := by rw [S_size]; omega
  have HRP := Lib.hid (fun w => Tryz.strings_Repeat ⟨#[48]⟩ c w (by omega) (by show 1 * c ≤ _; omega))
  have hrp : (⟨(Lib.repeatL (⟨#[48]⟩ : ByteArray).data.toList c).toArray⟩ : ByteArray) = S (List.replicate c 48) := by
    have h := Lib.repeatL_replicate 48 1 c
    rw [Nat.mul_one] at h
    show S (Lib.repeatL [48] c) = _
    rw [show ([48] : List UInt8) = List.replicate 1 48 from rfl, h]
  rw [hrp] at HRP
  have hpad : padN D pl = List.replicate c 48 ++ D := by unfold padN; rw [hc]
  have HCAT := Lib.hid (S_app (List.replicate c 48) D)
  rw [← hpad] at HCAT
  have hPl : (padN D pl).length = c + D.length := by rw [hpad, List.length_append, List.length_replicate]
  generalize padN D pl = P at *
  obtain ⟨a, ha⟩ : ∃ a, P.length - pl = a := ⟨_, rfl⟩
  rw [ha] at hR
  have haz : ((S P).size : Int) - (pl : Int) = (a : Int) := by rw [S_size]; omega
  have haP : a ≤ P.length := by omega
  have HAI := Lib.hid (show (((S (List.replicate c (48 : UInt8))).size : Nat) : Int) + (((S D).size : Nat) : Int) - (pl : Int) = (a : Int) by rw [S_size, S_size, List.length_replicate]; omega)
  have haz0 : (0 : Int) ≤ (a : Int) := by omega
  have haP2 : (a : Int) ≤ ((S P).size : Int) := by rw [S_size]; omega
  have e1 : (S P).extract 0 a = S (P.take a) := by rw [S_ext, List.drop_zero, B_S]
  have e2 : (S P).extract a (S P).size = S (P.drop a) := by rw [S_tail, B_S]
  have HE1 := Lib.hid e1
  have HE2 := Lib.hid e2
  have hRl : (ofT m pl).length ≤ 100 := by
    rw [hR]
    have : sg.length ≤ 1 := by have := hs9; rw [S_size] at this; exact this
    simp only [List.length_append, List.length_take, List.length_drop, List.length_cons, List.length_nil]
    omega
  have HRE := Lib.hid (fun w => real_walk (S (ofT m pl)) w (by rw [S_size]; omega))
  simp only [B_S] at HRE
  have hr := HRR.out
  rw [hr] at HRE
  obtain ⟨O, hOO⟩ : ∃ O, ofT m pl = O := ⟨_, rfl⟩
  rw [hOO] at HRE hR hRl
  have hO : S sg ++ S (P.take a) ++ ⟨#[46]⟩ ++ S (P.drop a) = S O := by rw [hR, show (⟨#[46]⟩ : ByteArray) = S [46] from rfl, S_app, S_app, S_app]
  have HO := Lib.hid hO
  have HSG := Lib.hid hsg
  have z1 : (S (P.take a)).size ≤ 30 := by rw [S_size, List.length_take]; omega
  have z2 : (S (P.drop a)).size ≤ 30 := by rw [S_size, List.length_drop]; omega
  have z3 : (S sg ++ S (P.take a)).size ≤ 40 := by rw [ByteArray.size_append]; omega
  have z4 : (S sg ++ S (P.take a) ++ ⟨#[46]⟩).size ≤ 50 := by rw [ByteArray.size_append]; have : (⟨#[46]⟩ : ByteArray).size = 1 := rfl; omega
  have z5 : (S (List.replicate c (48 : UInt8))).size ≤ 10 := by rw [S_size, List.length_replicate]; omega
  have z6 : (S D).size ≤ 18 := by rw [S_size]; exact hDl
  clear hD hR hc hrp hpad ha e1 e2 hRl hr hO hsg hOO
  go_upto_if 39 with fail
  go_cut [6, 7] (fun c6 c7 wx => c6 = .int .i64 (m.natAbs : Nat) ∧ c7 = .string (S sg) ∧ wx = w1)
  case first =>
    have hsg := HSG.out
    by_cases hm0 : m < 0
    · rw [if_pos hm0] at hsg
      subst hsg
      have hneg : ((m.natAbs : Nat) : Int) = -m := by omega
      have HNG := Lib.hid hneg
      clear hneg
      go_wp2_with fail
      go_meet
      exact ⟨congrArg (Value.int .i64) HNG.out.symm, rfl, rfl⟩
    · rw [if_neg hm0] at hsg
      subst hsg
      have hneg : ((m.natAbs : Nat) : Int) = m := by omega
      have HNG := Lib.hid hneg
      clear hneg
      go_wp2_with fail
      go_meet
      exact ⟨congrArg (Value.int .i64) HNG.out.symm, rfl, rfl⟩
  case rest =>
    obtain ⟨rfl, rfl, rfl⟩ := hcut
    go_wp2_with fail
    refine (HFM.out _ HW.out).mono ?_
    rintro e w2 ⟨rfl, hx⟩
    have HX := Lib.hid (HX.out.trans hx)
    clear hx HFM
    go_wp2_with fail
    refine (HRP.out _).mono ?_
    rintro e w3 ⟨rfl, hx⟩
    have HX := Lib.hid (HX.out.trans (ext_of_below hx))
    clear hx HRP
    go_upto_region 12 with fail
    rw [HCAT.out, HAI.out]
    clear HAI
    refine wp_region_ext (by kernel_rfl) (by kernel_rfl) ?_
    repeat (go_big_quiet_step (first | (go_at_call 10; rw [HE1.out, HE2.out, HO.out]; refine Calls.ext_of (HRE.out _))))
    refine wpQuiet_nil ?_
    rintro _ ⟨y, rfl⟩
    have HX := Lib.hid (HX.out.trans y.ext)
    go_wp2_with fail
    exact bodyPost_ret (results_tmp2 rfl _ _ _) rfl ⟨rfl, HX.out⟩
end Go.Proofs.YticahefindlmeaaGreatDoor.Nu
