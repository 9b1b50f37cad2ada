/-
  number: digits, strings.Cut at a point, cut: walked.
-/
import Derived.Test.YtgpgamohcafklaaGreatDoorNuA
import Derived.Test.YtgpgamohcafklaaGreatDoorShA
namespace Go.Proofs.YtgpgamohcafklaaGreatDoor.Nu
open Go.RowKit

def B (s : ByteArray) : List UInt8 := s.data.toList
def S (l : List UInt8) : ByteArray := ⟨l.toArray⟩
theorem S_B (s : ByteArray) : S (B s) = s := rfl
theorem B_S (l : List UInt8) : B (S l) = l := rfl
theorem S_size (l : List UInt8) : (S l).size = l.length := rfl
theorem B_len (s : ByteArray) : (B s).length = s.size := rfl
theorem S_app (a b : List UInt8) : S a ++ S b = S (a ++ b) := by
  apply ByteArray.ext
  apply Array.ext'
  rw [ByteArray.data_append, Array.toList_append]
  rfl
theorem S_ext (s : ByteArray) (i j : Nat) : s.extract i j = S (((B s).take j).drop i) := by
  apply ByteArray.ext
  apply Array.ext'
  rw [ByteArray.data_extract, Array.toList_extract]
  simp only [List.extract, B, S]
  rw [List.drop_take]
theorem S_tail (s : ByteArray) (i : Nat) : s.extract i s.size = S ((B s).drop i) := by
  rw [S_ext, ← B_len, List.take_length]
set_option maxHeartbeats 4000000 in
theorem digit_walk (c : UInt8) (w : World) : Calls Tryz.prog 86 #[.int .u8 c.toNat] w fun e w' => e = .returned (.bool (digB c)) ∧ w = w' := by
  have hc := c.toNat_lt
  unfold digB
  obtain ⟨x, hx⟩ : ∃ x, c.toNat = x := ⟨_, rfl⟩
  rw [hx] at hc ⊢
  clear hx
  by_cases h1 : 48 ≤ x
  · have h1z : (48 : Int) ≤ (x : Int) := by omega
    by_cases h2 : x ≤ 57
    · have h2z : (x : Int) ≤ 57 := by omega
      rw [decide_eq_true ⟨h1, h2⟩]
      go_enter Tryz.func86, Tryz.ntmps86
      go_wp2_with fail
      go_ret
      exact ⟨rfl, rfl⟩
    · have h2z : ¬ (x : Int) ≤ 57 := by omega
      rw [decide_eq_false (fun h => h2 h.2)]
      go_enter Tryz.func86, Tryz.ntmps86
      go_wp2_with fail
      go_ret
      exact ⟨rfl, rfl⟩
  · have h1z : ¬ (48 : Int) ≤ (x : Int) := by omega
    rw [decide_eq_false (fun h => h1 h.1)]
    go_enter Tryz.func86, Tryz.ntmps86
    go_wp2_with fail
    go_ret
    exact ⟨rfl, rfl⟩
theorem B_at (s : ByteArray) (i : Nat) (h : i < s.size) : (B s).drop i = s[i]'h :: (B s).drop (i + 1) := by
  rw [List.drop_eq_getElem_cons (by rw [B_len]; exact h)]
  rfl
set_option maxRecDepth 100000 in
set_option maxHeartbeats 4000000 in
theorem digits_walk (s : ByteArray) (w : World) (hs : s.size ≤ 9223372036854775807) : Calls Tryz.prog 80 #[.string s] w fun e w' => e = .returned (.bool ((B s).all digB)) ∧ w = w' := by
  obtain ⟨R, hR⟩ : ∃ R, (B s).all digB = R := ⟨_, rfl⟩
  rw [hR]
  have HR := Lib.hid hR
  clear hR
  go_enter Tryz.func80, Tryz.ntmps80
  go_wp2_with fail
  go_loopg [3, 6] s.size (fun g nv iv wr => ∃ k : Nat, g + k = s.size ∧ iv = .int .i64 k ∧ ((B s).drop k).all digB = R ∧ wr = w)
  case atStart => exact ⟨0, by omega, rfl, HR.out, rfl⟩
  case round =>
    obtain ⟨k, hgk, rfl, hd, rfl⟩ := hrel
    by_cases hlt : k < s.size
    · obtain ⟨g, rfl⟩ : ∃ g, gk = g + 1 := ⟨gk - 1, by omega⟩
      have hltz : (k : Int) < (s.size : Int) := by omega
      rw [B_at s k hlt, List.all_cons] at hd
      have HW := Lib.hid (fun w => digit_walk (s[k]'hlt) w)
      cases hc : digB (s[k]'hlt) with
      | true =>
        rw [hc, Bool.true_and] at hd
        rw [hc] at HW
        have HD := Lib.hid hd
        clear hd hc
        go_wp2_with fail
        refine (HW.out _).mono ?_
        rintro e w1 ⟨rfl, rfl⟩
        go_wp2_with fail
        go_roundg g
        case measure => omega
        case rel => exact ⟨k + 1, by omega, by go_num, HD.out, rfl⟩
      | false =>
        rw [hc, Bool.false_and] at hd
        rw [hc] at HW
        subst hd
        clear hc HR
        go_wp2_with fail
        refine (HW.out _).mono ?_
        rintro e w1 ⟨rfl, rfl⟩
        go_wp2_with fail
        go_ret
        exact ⟨rfl, rfl⟩
    · obtain rfl : k = s.size := by omega
      rw [List.drop_of_length_le (by rw [B_len]; exact Nat.le_refl _)] at hd
      obtain rfl : true = R := hd
      clear HR
      go_wp2_with fail
      go_ret
      exact ⟨rfl, rfl⟩
/-! ### cut at a point -/
theorem idx_has : ∀ l : List UInt8, hasL l = true → ∃ k, Lib.indexByte l 46 = (k : Nat) ∧ k < l.length ∧ l.take k = befL l ∧ l.drop (k + 1) = aftL l
  | [], h => by simp [hasL] at h
  | x :: l, h => by
    by_cases hx : x = 46
    · subst hx
      exact ⟨0, by simp [Lib.indexByte], by simp, by simp [befL], by simp [aftL]⟩
    · have h2 : hasL l = true := by
        unfold hasL at h ⊢
        simpa [Ne.symm hx] using h
      obtain ⟨k, h1, h3, h4, h5⟩ := idx_has l h2
      have hb : (x != 46) = true := by simpa using hx
      refine ⟨k + 1, ?_, by rw [List.length_cons]; omega, ?_, ?_⟩
      · simp [Lib.indexByte, hx, h1]
      · rw [List.take_succ_cons, h4]
        unfold befL
        rw [List.takeWhile_cons, if_pos hb]
      · rw [List.drop_succ_cons, h5]
        unfold aftL
        rw [List.dropWhile_cons, if_pos hb]
theorem idx_not : ∀ l : List UInt8, hasL l = false → Lib.indexByte l 46 = -1 ∧ befL l = l ∧ aftL l = []
  | [], _ => ⟨rfl, rfl, rfl⟩
  | x :: l, h => by
    have hx : ¬ x = 46 := fun e => by
      subst e
      simp [hasL] at h
    have h2 : hasL l = false := by
      unfold hasL at h ⊢
      simp at h ⊢
      exact h.2
    obtain ⟨h1, h3, h4⟩ := idx_not l h2
    have hb : (x != 46) = true := by simpa using hx
    refine ⟨?_, ?_, ?_⟩
    · simp [Lib.indexByte, hx, h1]
    · unfold befL at h3 ⊢
      rw [List.takeWhile_cons, if_pos hb, h3]
    · unfold aftL at h4 ⊢
      rw [List.dropWhile_cons, if_pos hb, h4]
theorem results_tmp3 {P : Program} {fn : Func} {p q r : Tmp} (h : fn.results = #[.tmp p, .tmp q, .tmp r]) (tmps : Array Value) (w : World) :
    (results fn tmps).run P w = .ok (.tuple #[tmps.getD p undef, tmps.getD q undef, tmps.getD r undef]) w := by
  simp [results, h]
set_option maxRecDepth 100000 in
set_option maxHeartbeats 4000000 in
theorem slcut_walk (s : ByteArray) (w : World) (hs : s.size ≤ 9223372036854775807) :
    Calls Tryz.prog 85 #[.string s, .string ⟨#[46]⟩] w fun e w' => e = .returned (.tuple #[.string (S (befL (B s))), .string (S (aftL (B s))), .bool (hasL (B s))]) ∧ Ext [] w w' := by
  have HI := Lib.hid (fun w => Tryz.stringslite_Index_one s 46 w)
  cases hh : hasL (B s) with
  | true =>
    obtain ⟨k, h1, h2, h3, h4⟩ := idx_has (B s) hh
    rw [B_len] at h2
    have e1 : s.extract 0 k = S (befL (B s)) := by rw [S_ext, List.drop_zero, h3]
    have e2 : s.extract (k + 1) s.size = S (aftL (B s)) := by rw [S_tail, h4]
    rw [show Lib.indexByte s.data.toList 46 = (k : Nat) from h1] at HI
    obtain ⟨X, hX⟩ : ∃ X, S (befL (B s)) = X := ⟨_, rfl⟩
    obtain ⟨Y, hY⟩ : ∃ Y, S (aftL (B s)) = Y := ⟨_, rfl⟩
    rw [hX] at e1
    rw [hY] at e2
    rw [hX, hY]
    have HE := Lib.hid (⟨e1, e2⟩ : _ ∧ _)
    have k0 : (0 : Int) ≤ (k : Int) := by omega
    have k1 : (k : Int) ≤ (s.size : Int) := by omega
    have k2 : (k : Int) + 1 ≤ (s.size : Int) := by omega
    clear hh h1 h2 h3 h4 e1 e2 hX hY
    go_enter Tryz.func85, Tryz.ntmps85
    go_wp2_with fail
    refine (HI.out _).mono ?_
    rintro e w1 ⟨rfl, rfl⟩
    go_wp2_with fail
    refine wp_region_ext (by kernel_rfl) (by kernel_rfl) ?_
    repeat (go_big_quiet_step (fail))
    refine wpQuiet_nil ?_
    rintro _ ⟨y, rfl⟩
    rw [HE.out.1, HE.out.2]
    have HX := Lib.hid y.ext
    go_wp2_with fail
    exact bodyPost_ret (results_tmp3 rfl _ _) rfl ⟨rfl, HX.out⟩
  | false =>
    obtain ⟨h1, h2, h3⟩ := idx_not (B s) hh
    rw [show Lib.indexByte s.data.toList 46 = -1 from h1] at HI
    rw [h2, h3, S_B, show S [] = (⟨#[]⟩ : ByteArray) from rfl]
    clear hh h1 h2 h3
    go_enter Tryz.func85, Tryz.ntmps85
    go_wp2_with fail
    refine (HI.out _).mono ?_
    rintro e w1 ⟨rfl, rfl⟩
    go_wp2_with fail
    exact bodyPost_ret (results_tmp3 rfl _ _) rfl ⟨rfl, Ext.refl _ _⟩
end Go.Proofs.YtgpgamohcafklaaGreatDoor.Nu
