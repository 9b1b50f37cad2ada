/-
  deflate: Fixed walked.
-/
import Derived.Test.YtnapnaaejignaaaGreatDgB
namespace Go.Proofs.YtnapnaaejignaaaGreat.De
open Go.RowKit Bt Hu If Mt

/-- two objects as one -/
def both (a b : Ob) : Ob where
  F := a.F ++ b.F
  P := fun w => a.P w ∧ b.P w
  ok := fun h hx hS => ⟨a.ok h.1 hx (fun k hk => hS k (List.mem_append_left _ hk)), b.ok h.2 hx (fun k hk => hS k (List.mem_append_right _ hk))⟩
  lt := fun h k hk => (List.mem_append.1 hk).elim (a.lt h.1 k) (b.lt h.2 k)
theorem swap01 {w0 w : World} {a b : Ob} {l : List Ob} (h : Sep w0 w (a :: b :: l)) : Sep w0 w (b :: a :: l) := by
  have hg : ∀ (i : Nat) (o : Ob), (b :: a :: l)[i]? = some o → ∃ j, (a :: b :: l)[j]? = some o ∧ (i = 0 → j = 1) ∧ (i = 1 → j = 0) ∧ (2 ≤ i → j = i) := fun i o hi => by
    match i, hi with
    | 0, hi => exact ⟨1, hi, fun _ => rfl, fun h => by omega, fun h => by omega⟩
    | 1, hi => exact ⟨0, hi, fun h => by omega, fun _ => rfl, fun h => by omega⟩
    | i + 2, hi => exact ⟨i + 2, hi, fun h => by omega, fun h => by omega, fun _ => rfl⟩
  refine ⟨h.ext, fun o ho => h.each o (by simp at ho ⊢; rcases ho with h | h | h <;> simp [h]), fun o ho => h.base o (by simp at ho ⊢; rcases ho with h | h | h <;> simp [h]), fun i j x y hi hj hij => ?_⟩
  obtain ⟨i2, h1, h2, h3, h4⟩ := hg i x hi
  obtain ⟨j2, g1, g2, g3, g4⟩ := hg j y hj
  refine h.apart i2 j2 x y h1 g1 fun e => hij ?_
  rcases Nat.lt_or_ge i 2 with q | q
  · rcases Nat.lt_or_ge j 2 with r | r <;> omega
  · rcases Nat.lt_or_ge j 2 with r | r <;> omega
theorem fix_codes : codesE fixL = 0 ∧ codesE fixD = 0 := by decide +kernel
set_option maxRecDepth 100000 in
set_option maxHeartbeats 4000000 in
theorem fixedD_walk (s : ByteArray) (w : World) (hs : s.size ≤ 1048576) :
    Calls Tryz.prog 22 #[.string s] w fun e w' => e = .returned (.string (fixedN s)) ∧ Ext [] w w' := by
  have hfix := fixed_walk (w := w)
  clear hfix
  obtain ⟨R, hR⟩ : ∃ R, fixedN s = R := ⟨_, rfl⟩
  rw [hR]
  have HR := Lib.hid hR
  have hlen := (fixedB_facts s).1
  have hpl : (pcsB fixL fixD (allN s)).length ≤ 48 * s.size + 18 := by
    unfold fixedB at hlen
    simp only [List.length_append, bitsOf_length] at hlen
    omega
  have hal := allN_len s
  have HQ := Lib.hid (⟨hpl, hal, (chk_zero (allN_chk s)).1⟩ : _ ∧ _ ∧ _)
  clear hR hlen hpl hal
  go_enter Tryz.func22, Tryz.ntmps22
  go_wp2_with fail
  refine (begin_walk 1 (by decide) (Sep.start w)).mono ?_
  rintro e w1 ⟨pb, wb, Fw, rfl, S⟩
  have HS := Lib.hid S
  clear S
  go_wp2_with fail
  refine (fixed_walk w1).mono ?_
  rintro e w2 ⟨a1, k1, a2, k2, rfl, hx, o1, o2, f1, f2⟩
  have HS := Lib.hid (HS.out.new hx (both (oSl 3 1 (.slice a1 fixL.length k1) fixL.length (fixL.map iz)) (oSl 3 1 (.slice a2 fixD.length k2) fixD.length (fixD.map iz))) ⟨o1, o2⟩ (fun k hk => (List.mem_append.1 hk).elim (f1 k) (f2 k)))
  clear hx o1 o2 f1 f2
  have HS := Lib.hid (swap01 HS.out)
  go_wp2_with fail
  refine (tables_walk _ _ fixL fixD pb wb HS.out 0 0 rfl rfl (fun W h => IntsArg.of_own h.1) (fun W h => IntsArg.of_own h.2) fix_codes.1 fix_codes.2).mono ?_
  rintro e w3 ⟨t1, F1, t2, F2, rfl, S⟩
  have HS := Lib.hid S
  clear S
  go_wp2_with fail
  refine (All_walk s w3 hs).mono ?_
  rintro e w4 ⟨v, rfl, hx, hP, hF⟩
  have HS := Lib.hid (HS.out.new hx _ hP hF)
  clear hx hP hF
  go_wp2_with fail
  refine (pieces_walk v (allN s) fixL fixD 2 1 5 3 0 HS.out (by decide) (by decide) (by decide) (by decide) rfl rfl rfl rfl rfl (fun W h => PcAt.of_own h) (TbW.of fixL_bad) (TbW.of fixD_bad) (by have := HQ.out.1; simp only [List.length_append, bitsOf_length]; omega) HQ.out.2.2 (by have := HQ.out.2.1; omega)).mono ?_
  rintro e w5 ⟨rfl, _, S⟩
  have hx := S.ext
  clear S
  have hR := HR.out
  unfold fixedN fixedB at hR
  rw [List.append_assoc, hR]
  go_wp2_with fail
  go_ret
  exact ⟨rfl, hx⟩
end Go.Proofs.YtnapnaaejignaaaGreat.De
