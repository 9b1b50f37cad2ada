/-
  The chapter's examples (predict); PredictPaeth walked.
-/
import Derived.Test.YtoiegmdlbcbgoaaPrI
namespace Go.Proofs.Ytoiegmdlbcbgoaa.Pr
open Go.RowKit

theorem putx (s t : ByteArray) (p : Nat) (c b k : Int) (n rows bs : Nat) (hg : gOk p c b k) (hp : 10 ≤ p) (hp2 : p ≤ 15) (hn : rowN c b k = n) (hbs : besN c b = bs) (hz : s.size = rows * n) (hs : s.size ≤ 1048576) (ht : (List.range rows).flatMap (rowO p bs n (byteF s)) = B t) (w : World) :
    Calls Try.prog 11 #[.string s, gV p c b k] w fun e w' => e = .returned (.tuple #[.string t, .int .i64 0]) ∧ Ext [] w w' := by
  have h := put10_walk s p c b k w hs hg hp hp2 n rows bs hn hbs hz
  rw [ht] at h
  have e : Pr.S (B t) = t := by cases t; rfl
  rw [e] at h
  exact h
set_option maxRecDepth 100000 in
set_option maxHeartbeats 4000000 in
theorem lives15 (w : World) : Calls Try.prog 7 #[] w fun e w' => e = .returned (.bool true) ∧ Ext [] w w' := by
  have hp := putx ⟨#[1, 2, 4, 8]⟩ ⟨#[1, 1, 1, 2, 4]⟩ 11 1 8 4 4 1 1 (by decide) (by decide) (by decide) (by decide) (by decide) (by decide) (by decide) (by decide)
  have hq := paeth_walk 1 2 3
  rw [show (paeth 1 2 3).toNat = 1 by decide] at hq
  unfold gV at hp
  have HP := Lib.hid hp
  have HQ := Lib.hid hq
  clear hp hq
  go_enter Try.func7, Try.ntmps7
  go_wp2_with fail
  refine (HP.out _).mono ?_; rintro e w1 ⟨rfl, hx1⟩
  have HX := Lib.hid hx1
  clear hx1
  go_wp2_with fail
  refine (HQ.out _).mono ?_; rintro e w1 ⟨rfl, rfl⟩
  go_wp2_with fail
  go_ret
  exact ⟨rfl, HX.out⟩

/-! ### plain -/
def absI (n : Int) : Int := if n < -n then -n else n
theorem paeth_one (a b c : UInt8) : paeth a b c = a ∨ paeth a b c = b ∨ paeth a b c = c := by
  unfold paeth nearer
  repeat' split
  all_goals simp
theorem paeth_near (a b c : UInt8) : let p := (a.toNat : Int) + b.toNat - c.toNat
    absI (p - (paeth a b c).toNat) ≤ absI (p - a.toNat) ∧ absI (p - (paeth a b c).toNat) ≤ absI (p - b.toNat) ∧ absI (p - (paeth a b c).toNat) ≤ absI (p - c.toNat) := by
  intro p
  have hf : ∀ x y : Int, farI x y = absI (x - y) := fun x y => by unfold farI absI; split <;> split <;> omega
  have hpp : paeth a b c = nearer p c (nearer p b a) := rfl
  rw [hpp]
  unfold nearer
  simp only [hf]
  by_cases h1 : absI (p - b.toNat) < absI (p - a.toNat)
  · rw [if_pos h1]
    by_cases h2 : absI (p - c.toNat) < absI (p - b.toNat)
    · rw [if_pos h2]; omega
    · rw [if_neg h2]; omega
  · rw [if_neg h1]
    by_cases h2 : absI (p - c.toNat) < absI (p - a.toNat)
    · rw [if_pos h2]; omega
    · rw [if_neg h2]; omega
theorem paeth_abb (a b : UInt8) : paeth a b b = a := by
  unfold paeth nearer farI
  have := a.toNat_lt
  have := b.toNat_lt
  repeat' split
  all_goals first | rfl | (exfalso; omega) | skip
  all_goals (apply UInt8.toNat_inj.1; omega)
theorem paeth_aba (a b : UInt8) : paeth a b a = b := by
  unfold paeth nearer farI
  have := a.toNat_lt
  have := b.toNat_lt
  repeat' split
  all_goals first | rfl | (exfalso; omega) | skip
  all_goals (apply UInt8.toNat_inj.1; omega)
theorem paeth_aac (a c : UInt8) : paeth a a c = a := by
  unfold paeth nearer farI
  have := a.toNat_lt
  have := c.toNat_lt
  repeat' split
  all_goals first | rfl | (exfalso; omega) | skip
  all_goals (apply UInt8.toNat_inj.1; omega)
set_option maxHeartbeats 4000000 in
theorem abs_walk (n : Int) (w : World) (h0 : -100000 ≤ n) (h1 : n ≤ 100000) : Calls Try.prog 13 #[.int .i64 n] w fun e w' => e = .returned (.int .i64 (absI n)) ∧ w = w' := by
  have hf : absI n = if n < -n then -n else n := rfl
  generalize absI n = f at hf ⊢
  have HF := Lib.hid hf
  clear hf
  go_enter Try.func13, Try.ntmps13
  go_wp2_with fail
  all_goals go_ret
  all_goals exact ⟨by rw [HF.out]; (try split) <;> first | rfl | omega, rfl⟩
set_option maxRecDepth 100000 in
set_option maxHeartbeats 8000000 in
theorem paethLaw_walk (a0 b0 c0 : Int) (w : World) (wa : (Lit.int .u8 a0).wf = true) (wb : (Lit.int .u8 b0).wf = true) (wc : (Lit.int .u8 c0).wf = true) :
    Calls Try.prog 4 #[.int .u8 a0, .int .u8 b0, .int .u8 c0] w fun e w' => e = .returned (.bool true) ∧ Ext [] w w' := by
  obtain ⟨a, rfl⟩ := Kt.wf_u8 wa
  obtain ⟨b, rfl⟩ := Kt.wf_u8 wb
  obtain ⟨c, rfl⟩ := Kt.wf_u8 wc
  clear wa wb wc
  have h1 := paeth_one a b c
  have hnear := paeth_near a b c
  have hw := paeth_walk a b c
  have hw1 := paeth_walk a b b
  have hw2 := paeth_walk a b a
  have hw3 := paeth_walk a a c
  rw [paeth_abb] at hw1
  rw [paeth_aba] at hw2
  rw [paeth_aac] at hw3
  generalize paeth a b c = x at *
  have a8 := a.toNat_lt
  have b8 := b.toNat_lt
  have c8 := c.toNat_lt
  have x8 := x.toNat_lt
  have hx : (x.toNat : Int) = a.toNat ∨ (x.toNat : Int) ≠ a.toNat ∧ ((x.toNat : Int) = b.toNat ∨ (x.toNat : Int) ≠ b.toNat ∧ (x.toNat : Int) = c.toNat) := by
    rcases h1 with rfl | rfl | rfl <;> omega
  clear h1
  dsimp only at hnear
  obtain ⟨p, hp⟩ : ∃ p, (a.toNat : Int) + (b.toNat : Int) - (c.toNat : Int) = p := ⟨_, rfl⟩
  have hp1 : -1000 ≤ p ∧ p ≤ 1000 := by omega
  rw [hp] at hnear
  have hax := fun w => abs_walk (p - (x.toNat : Int)) w (by omega) (by omega)
  have haa := fun w => abs_walk (p - (a.toNat : Int)) w (by omega) (by omega)
  have hab := fun w => abs_walk (p - (b.toNat : Int)) w (by omega) (by omega)
  have hac := fun w => abs_walk (p - (c.toNat : Int)) w (by omega) (by omega)
  generalize absI (p - (x.toNat : Int)) = dx at hnear hax
  generalize absI (p - (a.toNat : Int)) = da at hnear haa
  generalize absI (p - (b.toNat : Int)) = db at hnear hab
  generalize absI (p - (c.toNat : Int)) = dc at hnear hac
  obtain ⟨n1, n2, n3⟩ := hnear
  have m1 : decide (dx ≤ da) = true := decide_eq_true n1
  have m2 : decide (dx ≤ db) = true := decide_eq_true n2
  have m3 : decide (dx ≤ dc) = true := decide_eq_true n3
  have aB : 0 ≤ (a.toNat : Int) ∧ (a.toNat : Int) ≤ 255 := by omega
  have bB : 0 ≤ (b.toNat : Int) ∧ (b.toNat : Int) ≤ 255 := by omega
  have cB : 0 ≤ (c.toNat : Int) ∧ (c.toNat : Int) ≤ 255 := by omega
  have xB : 0 ≤ (x.toNat : Int) ∧ (x.toNat : Int) ≤ 255 := by omega
  clear a8 b8 c8 x8 n1 n2 n3
  generalize (a.toNat : Int) = A at *
  generalize (b.toNat : Int) = Bv at *
  generalize (c.toNat : Int) = Cv at *
  generalize (x.toNat : Int) = X at *
  have H0 := Lib.hid hw
  have H1 := Lib.hid hw1
  have H2 := Lib.hid hw2
  have H3 := Lib.hid hw3
  have HAX := Lib.hid hax
  have HAA := Lib.hid haa
  have HAB := Lib.hid hab
  have HAC := Lib.hid hac
  clear hw hw1 hw2 hw3 hax haa hab hac
  rcases hx with rfl | ⟨hne, rfl | ⟨hne2, rfl⟩⟩
  · skip
    go_enter Try.func4, Try.ntmps4
    go_wp2_with fail
    refine (lives15 _).mono ?_; rintro e w1 ⟨rfl, hx1⟩
    have HX := Lib.hid hx1
    clear hx1
    go_wp2_with fail
    refine (H0.out _).mono ?_; rintro e w2 ⟨rfl, rfl⟩
    go_wp2_with fail
    refine (HAX.out _).mono ?_; rintro e w2 ⟨rfl, rfl⟩
    go_wp2_with fail
    refine (HAA.out _).mono ?_; rintro e w2 ⟨rfl, rfl⟩
    go_wp2_with fail
    refine (HAB.out _).mono ?_; rintro e w2 ⟨rfl, rfl⟩
    go_wp2_with fail
    refine (HAC.out _).mono ?_; rintro e w2 ⟨rfl, rfl⟩
    go_wp2_with fail
    refine (H1.out _).mono ?_; rintro e w2 ⟨rfl, rfl⟩
    go_wp2_with fail
    refine (H2.out _).mono ?_; rintro e w2 ⟨rfl, rfl⟩
    go_wp2_with fail
    refine (H3.out _).mono ?_; rintro e w2 ⟨rfl, rfl⟩
    go_wp2_with fail
    go_ret
    exact ⟨rfl, HX.out⟩
  · have q1 := beq_eq_false_iff_ne.2 hne
    have q3 := bne_iff_ne.2 hne
    go_enter Try.func4, Try.ntmps4
    go_wp2_with fail
    refine (lives15 _).mono ?_; rintro e w1 ⟨rfl, hx1⟩
    have HX := Lib.hid hx1
    clear hx1
    go_wp2_with fail
    refine (H0.out _).mono ?_; rintro e w2 ⟨rfl, rfl⟩
    go_wp2_with fail
    refine (HAX.out _).mono ?_; rintro e w2 ⟨rfl, rfl⟩
    go_wp2_with fail
    refine (HAA.out _).mono ?_; rintro e w2 ⟨rfl, rfl⟩
    go_wp2_with fail
    refine (HAB.out _).mono ?_; rintro e w2 ⟨rfl, rfl⟩
    go_wp2_with fail
    refine (HAC.out _).mono ?_; rintro e w2 ⟨rfl, rfl⟩
    go_wp2_with fail
    refine (H1.out _).mono ?_; rintro e w2 ⟨rfl, rfl⟩
    go_wp2_with fail
    refine (H2.out _).mono ?_; rintro e w2 ⟨rfl, rfl⟩
    go_wp2_with fail
    refine (H3.out _).mono ?_; rintro e w2 ⟨rfl, rfl⟩
    go_wp2_with fail
    go_ret
    exact ⟨rfl, HX.out⟩
  · have q1 := beq_eq_false_iff_ne.2 hne
    have q2 := beq_eq_false_iff_ne.2 hne2
    have q3 := bne_iff_ne.2 hne
    have q4 := bne_iff_ne.2 hne2
    go_enter Try.func4, Try.ntmps4
    go_wp2_with fail
    refine (lives15 _).mono ?_; rintro e w1 ⟨rfl, hx1⟩
    have HX := Lib.hid hx1
    clear hx1
    go_wp2_with fail
    refine (H0.out _).mono ?_; rintro e w2 ⟨rfl, rfl⟩
    go_wp2_with fail
    refine (HAX.out _).mono ?_; rintro e w2 ⟨rfl, rfl⟩
    go_wp2_with fail
    refine (HAA.out _).mono ?_; rintro e w2 ⟨rfl, rfl⟩
    go_wp2_with fail
    refine (HAB.out _).mono ?_; rintro e w2 ⟨rfl, rfl⟩
    go_wp2_with fail
    refine (HAC.out _).mono ?_; rintro e w2 ⟨rfl, rfl⟩
    go_wp2_with fail
    refine (H1.out _).mono ?_; rintro e w2 ⟨rfl, rfl⟩
    go_wp2_with fail
    refine (H2.out _).mono ?_; rintro e w2 ⟨rfl, rfl⟩
    go_wp2_with fail
    refine (H3.out _).mono ?_; rintro e w2 ⟨rfl, rfl⟩
    go_wp2_with fail
    go_ret
    exact ⟨rfl, HX.out⟩
end Go.Proofs.Ytoiegmdlbcbgoaa.Pr
