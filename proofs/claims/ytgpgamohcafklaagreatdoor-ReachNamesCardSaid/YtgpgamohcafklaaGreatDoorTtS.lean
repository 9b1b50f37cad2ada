/-
  The document's numbers: split walked.
-/
import Derived.Test.YtgpgamohcafklaaGreatDoorNuG
namespace Go.Proofs.YtgpgamohcafklaaGreatDoor.Nu
open Go.RowKit

set_option maxHeartbeats 4000000 in
theorem digit01_walk (c : UInt8) (w : World) : Calls Tryz.prog 73 #[.int .u8 c.toNat] w fun e w' => e = .returned (.bool (digB c)) ∧ w = w' := by
  have hc := c.toNat_lt
  unfold digB
  obtain ⟨x, hx⟩ : ∃ x, c.toNat = x := ⟨_, rfl⟩
  rw [hx] at hc ⊢
  clear hx
  by_cases h1 : 48 ≤ x
  · have h1z : (48 : Int) ≤ (x : Int) := by omega
    by_cases h2 : x ≤ 57
    · have h2z : (x : Int) ≤ 57 := by omega
      rw [decide_eq_true ⟨h1, h2⟩]
      go_enter Tryz.func73, Tryz.ntmps73
      go_wp2_with fail
      go_ret
      exact ⟨rfl, rfl⟩
    · have h2z : ¬ (x : Int) ≤ 57 := by omega
      rw [decide_eq_false (fun h => h2 h.2)]
      go_enter Tryz.func73, Tryz.ntmps73
      go_wp2_with fail
      go_ret
      exact ⟨rfl, rfl⟩
  · have h1z : ¬ (48 : Int) ≤ (x : Int) := by omega
    rw [decide_eq_false (fun h => h1 h.1)]
    go_enter Tryz.func73, Tryz.ntmps73
    go_wp2_with fail
    go_ret
    exact ⟨rfl, rfl⟩
theorem results_tmp5 {P : Program} {fn : Func} {p q r s t : Tmp} (h : fn.results = #[.tmp p, .tmp q, .tmp r, .tmp s, .tmp t]) (tmps : Array Value) (w : World) :
    (results fn tmps).run P w = .ok (.tuple #[tmps.getD p undef, tmps.getD q undef, tmps.getD r undef, tmps.getD s undef, tmps.getD t undef]) w := by
  simp [results, h]
/-! ### plain: digits ahead -/
def spN (l : List UInt8) : Nat := (l.takeWhile digB).length
theorem dig_46 {x : UInt8} (h : digB x = true) : x ≠ 46 := by rintro rfl; revert h; decide
theorem sp_cons (x : UInt8) (l : List UInt8) : spN (x :: l) = if digB x then spN l + 1 else 0 := by
  unfold spN
  rw [List.takeWhile_cons]
  split <;> simp
theorem sp_le (l : List UInt8) : spN l ≤ l.length := (List.takeWhile_sublist _).length_le
theorem sp_in : ∀ (l : List UInt8) (k : Nat), k < spN l → ∀ h : k < l.length, digB (l[k]'h) = true
  | [], k, hk, h => by simp at h
  | x :: l, k, hk, h => by
    rw [sp_cons] at hk
    split at hk
    · rename_i hx
      match k, h with
      | 0, _ => exact hx
      | k + 1, h => exact sp_in l k (by omega) (by simpa using h)
    · omega
theorem sp_out : ∀ (l : List UInt8) (h : spN l < l.length), digB (l[spN l]'h) = false
  | [], h => by simp at h
  | x :: l, h => by
    by_cases hx : digB x = true
    · have e : spN (x :: l) = spN l + 1 := by rw [sp_cons, if_pos hx]
      have h2 : spN l < l.length := by simp at h; omega
      have := sp_out l h2
      simp only [e, List.getElem_cons_succ]
      exact this
    · have e : spN (x :: l) = 0 := by rw [sp_cons, if_neg hx]
      simp only [e, List.getElem_cons_zero]
      simpa using hx
theorem sp_all : ∀ (l : List UInt8), spN l = l.length → befL l = l ∧ aftL l = [] ∧ hasL l = false ∧ l.all digB = true
  | [], _ => by simp [befL, aftL, hasL]
  | x :: l, h => by
    by_cases hx : digB x = true
    · rw [sp_cons, if_pos hx] at h
      obtain ⟨h1, h2, h3, h4⟩ := sp_all l (by simpa using h)
      have hb : (x != 46) = true := bne_iff_ne.2 (dig_46 hx)
      refine ⟨?_, ?_, ?_, by rw [List.all_cons, hx, h4]; rfl⟩
      · unfold befL at h1 ⊢
        rw [List.takeWhile_cons, if_pos hb, h1]
      · unfold aftL at h2 ⊢
        rw [List.dropWhile_cons, if_pos hb, h2]
      · unfold hasL at h3 ⊢
        rw [List.contains_cons, h3]
        simp [(dig_46 hx).symm]
    · rw [sp_cons, if_neg hx] at h
      simp at h
theorem sp_point : ∀ (l : List UInt8) (h : spN l < l.length), (l[spN l]'h) = 46 → befL l = l.take (spN l) ∧ aftL l = l.drop (spN l + 1) ∧ hasL l = true ∧ (l.take (spN l)).all digB = true
  | [], h, _ => by simp at h
  | x :: l, h, h46 => by
    by_cases hx : digB x = true
    · have e : spN (x :: l) = spN l + 1 := by rw [sp_cons, if_pos hx]
      have h2' : spN l < l.length := by simp at h; omega
      simp only [e, List.getElem_cons_succ] at h46
      obtain ⟨h1, h2, h3, h4⟩ := sp_point l h2' h46
      have hb : (x != 46) = true := bne_iff_ne.2 (dig_46 hx)
      rw [e]
      refine ⟨?_, ?_, ?_, by rw [List.take_succ_cons, List.all_cons, hx, h4]; rfl⟩
      · unfold befL at h1 ⊢
        rw [List.takeWhile_cons, if_pos hb, h1, List.take_succ_cons]
      · unfold aftL at h2 ⊢
        rw [List.dropWhile_cons, if_pos hb, h2, List.drop_succ_cons]
      · unfold hasL at h3 ⊢
        rw [List.contains_cons, h3]
        simp
    · have e : spN (x :: l) = 0 := by rw [sp_cons, if_neg hx]
      simp only [e, List.getElem_cons_zero] at h46
      subst h46
      rw [e]
      simp [befL, aftL, hasL]
theorem sp_bad : ∀ (l : List UInt8) (h : spN l < l.length), (l[spN l]'h) ≠ 46 → (befL l).all digB = false
  | [], h, _ => by simp at h
  | x :: l, h, h46 => by
    by_cases hx : digB x = true
    · have e : spN (x :: l) = spN l + 1 := by rw [sp_cons, if_pos hx]
      have h2' : spN l < l.length := by simp at h; omega
      simp only [e, List.getElem_cons_succ] at h46
      have h1 := sp_bad l h2' h46
      have hb : (x != 46) = true := bne_iff_ne.2 (dig_46 hx)
      unfold befL at h1 ⊢
      rw [List.takeWhile_cons, if_pos hb, List.all_cons, h1, Bool.and_false]
    · have e : spN (x :: l) = 0 := by rw [sp_cons, if_neg hx]
      simp only [e, List.getElem_cons_zero] at h46
      unfold befL
      rw [List.takeWhile_cons, if_pos (bne_iff_ne.2 h46), List.all_cons]
      simp [hx]
structure SpOk (t : ByteArray) (c : Nat) : Prop where
  inn : ∀ k, k < c → ∀ h : k < t.size, digB (t[k]'h) = true
  all : c = t.size → befL (B t) = B t ∧ aftL (B t) = [] ∧ hasL (B t) = false ∧ goodL (B t) = decide (0 < t.size)
  out : ∀ h : c < t.size, digB (t[c]'h) = false
  bad : ∀ h : c < t.size, (t[c]'h).toNat ≠ 46 → goodL (B t) = false
  pt : ∀ h : c < t.size, (t[c]'h).toNat = 46 → befL (B t) = (B t).take c ∧ aftL (B t) = (B t).drop (c + 1) ∧ hasL (B t) = true ∧ goodL (B t) = (((B t).drop (c + 1)).all digB && decide (0 < c + ((B t).drop (c + 1)).length))
theorem sp_ok (t : ByteArray) : SpOk t (spN (B t)) ∧ spN (B t) ≤ t.size := by
  have hat : ∀ k (h : k < t.size), (B t)[k]'(by rw [B_len]; exact h) = t[k]'h := fun k h => rfl
  refine ⟨⟨fun k hk h => ?_, fun h => ?_, fun h => ?_, fun h h46 => ?_, fun h h46 => ?_⟩, sp_le _⟩
  · have := sp_in (B t) k hk (by rw [B_len]; exact h)
    rwa [hat] at this
  · obtain ⟨h1, h2, h3, h4⟩ := sp_all (B t) (by rw [B_len]; exact h)
    refine ⟨h1, h2, h3, ?_⟩
    rw [goodL, h1, h2, h4, List.append_nil]
    by_cases h0 : t.size = 0
    · have : B t = [] := List.eq_nil_of_length_eq_zero h0
      rw [this, h0]
      rfl
    · have : (B t).isEmpty = false := by
        cases hb : B t with
        | nil => exact absurd (show (B t).length = 0 by rw [hb]; rfl) h0
        | cons a l => rfl
      rw [this, decide_eq_true (by omega)]
      rfl
  · have := sp_out (B t) (by rw [B_len]; exact h)
    rwa [hat] at this
  · have := sp_bad (B t) (by rw [B_len]; exact h) (fun e => h46 (by have e2 : t[spN (B t)]'h = 46 := e; rw [e2]; rfl))
    rw [goodL, this]
    rfl
  · have e46 : t[spN (B t)]'h = 46 := UInt8.toNat_inj.1 h46
    obtain ⟨h1, h2, h3, h4⟩ := sp_point (B t) (by rw [B_len]; exact h) (by rw [hat]; exact e46)
    refine ⟨h1, h2, h3, ?_⟩
    rw [goodL, h1, h2, h4, Bool.true_and]
    congr 1
    have hl : (List.take (spN (B t)) (B t) ++ List.drop (spN (B t) + 1) (B t)).length = spN (B t) + (List.drop (spN (B t) + 1) (B t)).length := by
      rw [List.length_append, List.length_take, B_len]; omega
    generalize List.take (spN (B t)) (B t) ++ List.drop (spN (B t) + 1) (B t) = z at hl
    rw [← hl]
    cases z <;> simp
/-- what split tells of what is no number -/
def NotNum (e : Ending) : Prop := ∃ n a b p, e = .returned (.tuple #[.bool n, .string a, .string b, .bool p, .bool false])
set_option maxRecDepth 100000 in
set_option maxHeartbeats 4000000 in
theorem split_walk (s : ByteArray) (w : World) (hs : s.size ≤ 1000000) : Calls Tryz.prog 56 #[.string s] w fun e w' =>
    (goodL (sgnR (B s)) = true → e = .returned (.tuple #[.bool (sgnB (B s)), .string (S (befL (sgnR (B s)))), .string (S (aftL (sgnR (B s)))), .bool (hasL (sgnR (B s))), .bool true])) ∧
    (goodL (sgnR (B s)) = false → NotNum e) ∧ Ext [] w w' := by
  rcases head_parts s with ⟨h0, hB, he⟩ | ⟨he, h0, x, l, hx, hx9, hB, ht⟩
  · have hsr : sgnR (B s) = B s := by rw [hB]; rfl
    have hsg : sgnB (B s) = false := by rw [hB]; rfl
    rw [hsr, hsg]
    have hgf : goodL (B s) = false := by rw [hB]; rfl
    rw [hgf]
    have q1 : ¬ (0 : Int) < (s.size : Int) := by omega
    have hex : s.extract 0 0 = s := by rw [show (s.extract 0 0) = s.extract 0 s.size by rw [h0], S_ext, ← B_len, List.take_length, List.drop_zero]; rfl
    clear hsr hsg hB he hgf
    go_enter Tryz.func56, Tryz.ntmps56
    go_wp2_with fail
    go_loopg [7] 0 (fun _ iv wx => iv = .int .i64 0 ∧ w = wx)
    case atStart => exact ⟨rfl, rfl⟩
    case round =>
    obtain ⟨rfl, rfl⟩ := hrel
    go_wp2_with fail
    have hz0 : ((ByteArray.mk #[]).size : Int) = 0 := rfl
    go_loopg [2, 3, 4, 5, 6, 8] 0 (fun _ a2 a3 a4 a5 a6 iv wx => a2 = .bool false ∧ a3 = .string ⟨#[]⟩ ∧ a4 = .string ⟨#[]⟩ ∧ a5 = .bool false ∧ a6 = .bool false ∧ iv = .int .i64 0 ∧ w = wx)
    case atStart => exact ⟨rfl, rfl, rfl, rfl, rfl, rfl, rfl⟩
    case round =>
    obtain ⟨rfl, rfl, rfl, rfl, rfl, rfl, rfl⟩ := hrel
    go_wp2_with fail
    (try simp only [Exit.inBlock, Exit.then])
    refine bodyPost_ret (results_tmp5 rfl _ _) rfl ⟨fun h => (by cases h), fun _ => ⟨_, _, _, _, rfl⟩, Ext.refl _ _⟩
  · by_cases h43 : x = 43
    · subst h43
      have hsr : sgnR (B s) = B (S l) := by rw [hB]; rfl
      have hsg : sgnB (B s) = false := by rw [hB]; rfl
      rw [hsr, hsg]
      have htl : (S l).size + 1 = s.size := by have := congrArg List.length hB; rw [B_len] at this; rw [S_size]; simpa using this.symm
      generalize S l = t at ht htl
      obtain ⟨HC, hcs⟩ := sp_ok t
      obtain ⟨c, hc⟩ : ∃ c, spN (B t) = c := ⟨_, rfl⟩
      rw [hc] at HC hcs
      have HC := Lib.hid HC
      have h0z : (0 : Int) < (s.size : Int) := by omega
      have h1z : (1 : Int) ≤ (s.size : Int) := by omega
      have q1 : True := trivial
      have q2 : True := trivial
      clear hc hsr hsg hB he
      go_enter Tryz.func56, Tryz.ntmps56
      go_upto_region 2 with (fail)
      go_quiet (fail)
      go_upto_region 3 with (fail)
      clear hx
      clear q1 q2
      go_wp2_with fail
      go_loopg [7] c (fun g iv wr => ∃ k : Nat, g + k = c ∧ iv = .int .i64 k ∧ Ext [] w wr)
      case atStart => exact ⟨0, by omega, rfl, (Ext.refl _ _).drewN _⟩
      case round =>
        obtain ⟨k, hgk, rfl, hxw⟩ := hrel
        have HXW := Lib.hid hxw
        clear hxw
        by_cases hkc : k < c
        · obtain ⟨g, rfl⟩ : ∃ g, gk = g + 1 := ⟨gk - 1, by omega⟩
          have hks : k < t.size := by omega
          have hltz : (k : Int) < (t.size : Int) := by omega
          have HW := Lib.hid (fun w => digit01_walk (t[k]'hks) w)
          rw [HC.out.inn k hkc hks] at HW
          go_wp2_with fail
          refine (HW.out _).mono ?_
          rintro e w1 ⟨rfl, rfl⟩
          go_wp2_with fail
          go_roundg g
          case measure => omega
          case rel => exact ⟨k + 1, by omega, by go_num, HXW.out⟩
        · obtain rfl : gk = 0 := by omega
          obtain rfl : k = c := by omega
          have hcz : (0 : Int) ≤ (k : Int) := by omega
          have hcz2 : (k : Int) ≤ (t.size : Int) := by omega
          by_cases hcs : k < t.size
          case neg =>
            have hltz : ¬ (k : Int) < (t.size : Int) := by omega
            obtain ⟨f1, f2, f3, f4⟩ := HC.out.all (by omega)
            have hex : t.extract 0 k = t := by rw [show k = t.size by omega, S_ext, ← B_len, List.take_length, List.drop_zero]; rfl
            have HF := Lib.hid (⟨f1, f2, f3, f4⟩ : _ ∧ _ ∧ _ ∧ _)
            clear f1 f2 f3 f4
            go_wp2_with fail
            (try rw [hex])
            have hz0 : ((ByteArray.mk #[]).size : Int) = 0 := rfl
            go_loopg [2, 3, 4, 5, 6, 8] 0 (fun _ a2 a3 a4 a5 a6 iv wx => a2 = .bool false ∧ a3 = .string t ∧ a4 = .string ⟨#[]⟩ ∧ a5 = .bool false ∧ a6 = .bool false ∧ iv = .int .i64 0 ∧ wr = wx)
            case atStart => exact ⟨rfl, rfl, rfl, rfl, rfl, rfl, rfl⟩
            case round =>
              obtain ⟨rfl, rfl, rfl, rfl, rfl, rfl, rfl⟩ := hrel
              by_cases h0 : t.size = 0
              · have hlz : ¬ (0 : Int) < (t.size : Int) := by omega
                go_wp2_with fail
                (try simp only [Exit.inBlock, Exit.then])
                refine bodyPost_ret (results_tmp5 rfl _ _) rfl ⟨fun h => ?_, fun _ => ?_, HXW.out⟩
                · rw [HF.out.2.2.2, h0] at h
                  cases h
                · exact ⟨_, _, _, _, by simp; exact ⟨rfl, rfl, rfl, rfl⟩⟩
              · have hlz : (0 : Int) < (t.size : Int) := by omega
                go_wp2_with fail
                (try simp only [Exit.inBlock, Exit.then])
                refine bodyPost_ret (results_tmp5 rfl _ _) rfl ⟨fun h => ?_, fun h => ?_, HXW.out⟩
                · rw [HF.out.1, HF.out.2.1, HF.out.2.2.1, S_B]
                  simp [S]
                  (try omega)
                · rw [HF.out.2.2.2, decide_eq_true (by omega)] at h
                  cases h
          case pos =>
          have hltz : (k : Int) < (t.size : Int) := by omega
          have HW := Lib.hid (fun w => digit01_walk (t[k]'hcs) w)
          rw [HC.out.out hcs] at HW
          by_cases h46 : (t[k]'hcs).toNat = 46
          case neg =>
            have hgf := HC.out.bad hcs h46
            obtain ⟨x, hx⟩ : ∃ x, (t[k]'hcs).toNat = x := ⟨_, rfl⟩
            have hx9 : x < 256 := by rw [← hx]; exact UInt8.toNat_lt _
            rw [hx] at HW h46
            have hxb : ((x : Int) == 46) = false := beq_eq_false_iff_ne.2 (by omega)
            have hxi : (t[k]'hcs).toNat = x := hx
            go_wp2_with fail
            refine (HW.out _).mono ?_
            rintro e w1 ⟨rfl, rfl⟩
            go_wp2_with fail
            (try simp only [Exit.inBlock, Exit.then])
            refine bodyPost_ret (results_tmp5 rfl _ _) rfl ⟨fun h => ?_, fun h => ⟨_, _, _, _, rfl⟩, HXW.out⟩
            rw [hgf] at h
            cases h
          case pos =>
          obtain ⟨p1, p2, p3, p4⟩ := HC.out.pt hcs h46
          simp only [h46] at HW
          have hxb : (((t[k]'hcs).toNat : Int) == 46) = true := by rw [h46]; rfl
          obtain ⟨u, hu⟩ : ∃ u, S ((B t).drop (k + 1)) = u := ⟨_, rfl⟩
          have hBu : (B t).drop (k + 1) = B u := by rw [← hu, B_S]
          have hex1 : t.extract 0 k = S ((B t).take k) := by rw [S_ext, List.drop_zero]
          have hex2 : t.extract (k + 1) t.size = u := by rw [S_tail, hu]
          have hul : u.size + (k + 1) = t.size := by rw [← hu, S_size, List.length_drop, B_len]; omega
          have hwl : (S ((B t).take k)).size = k := by rw [S_size, List.length_take, B_len]; omega
          obtain ⟨wh, hwh⟩ : ∃ wh, S ((B t).take k) = wh := ⟨_, rfl⟩
          rw [hBu] at p2 p4
          rw [hwh] at hex1 hwl
          have HP := Lib.hid (⟨p1, p2, p3, p4, hwh⟩ : _ ∧ _ ∧ _ ∧ _ ∧ _)
          have hkz1 : (k : Int) + 1 ≤ (t.size : Int) := by omega
          clear p1 p2 p3 p4 hu hBu hwh
          go_wp2_with fail
          refine (HW.out _).mono ?_
          rintro e w1 ⟨rfl, rfl⟩
          go_wp2_with fail
          (try rw [hex1])
          (try rw [hex2])
          clear hxb hex1 hex2 hkz1
          go_loopg [2, 3, 4, 5, 6, 8] u.size (fun g a2 a3 a4 a5 a6 iv wx => ∃ j : Nat, a2 = .bool false ∧ a3 = .string wh ∧ a4 = .string u ∧ a5 = .bool true ∧ a6 = .bool false ∧ g + j = u.size ∧ iv = .int .i64 j ∧ ((B u).drop j).all digB = (B u).all digB ∧ wr = wx)
          case atStart => exact ⟨0, rfl, rfl, rfl, rfl, rfl, by omega, rfl, rfl, rfl⟩
          case round =>
            obtain ⟨j, rfl, rfl, rfl, rfl, rfl, hgj, rfl, hd, rfl⟩ := hrel
            by_cases hju : j < u.size
            · obtain ⟨g, rfl⟩ : ∃ g, gk = g + 1 := ⟨gk - 1, by omega⟩
              have hjz : (j : Int) < (u.size : Int) := by omega
              rw [B_at u j hju, List.all_cons] at hd
              have HW2 := Lib.hid (fun w => digit01_walk (u[j]'hju) w)
              cases hcd : digB (u[j]'hju) with
              | true =>
                rw [hcd, Bool.true_and] at hd
                rw [hcd] at HW2
                have HD := Lib.hid hd
                clear hd hcd
                go_wp2_with fail
                refine (HW2.out _).mono ?_
                rintro e w1 ⟨rfl, rfl⟩
                go_wp2_with fail
                go_roundg g
                case measure => omega
                case rel => exact ⟨j + 1, rfl, rfl, rfl, rfl, rfl, by omega, by go_num, HD.out, rfl⟩
              | false =>
                rw [hcd, Bool.false_and] at hd
                rw [hcd] at HW2
                have HD := Lib.hid hd
                clear hd hcd
                go_wp2_with fail
                refine (HW2.out _).mono ?_
                rintro e w1 ⟨rfl, rfl⟩
                go_wp2_with fail
                (try simp only [Exit.inBlock, Exit.then])
                refine bodyPost_ret (results_tmp5 rfl _ _) rfl ⟨fun h => ?_, fun h => ⟨_, _, _, _, rfl⟩, HXW.out⟩
                rw [HP.out.2.2.2.1, ← HD.out] at h
                cases h
            · obtain rfl : gk = 0 := by omega
              have hjz : ¬ (j : Int) < (u.size : Int) := by omega
              rw [List.drop_of_length_le (by rw [B_len]; omega)] at hd
              have hd : true = (B u).all digB := hd
              have HD := Lib.hid hd
              clear hd
              by_cases h0 : 0 < wh.size + u.size
              · have hlz : (0 : Int) < (wh.size : Int) + (u.size : Int) := by omega
                have hwl' := hwl
                clear hwl
                have HWl := Lib.hid hwl'
                have b1 : wh.size ≤ 1000000 := by omega
                have b2 : u.size ≤ 1000000 := by omega
                clear hwl'
                go_wp2_with fail
                (try simp only [Exit.inBlock, Exit.then])
                refine bodyPost_ret (results_tmp5 rfl _ _) rfl ⟨fun h => ?_, fun h => ?_, HXW.out⟩
                · rw [HP.out.1, HP.out.2.1, HP.out.2.2.1, HP.out.2.2.2.2, S_B]
                  simp
                · rw [HP.out.2.2.2.1, ← HD.out, B_len, decide_eq_true (by have := HWl.out; omega)] at h
                  cases h
              · have hlz : ¬ (0 : Int) < (wh.size : Int) + (u.size : Int) := by omega
                have hwl' := hwl
                clear hwl
                have HWl := Lib.hid hwl'
                have b1 : wh.size ≤ 1000000 := by omega
                have b2 : u.size ≤ 1000000 := by omega
                clear hwl'
                go_wp2_with fail
                (try simp only [Exit.inBlock, Exit.then])
                refine bodyPost_ret (results_tmp5 rfl _ _) rfl ⟨fun h => ?_, fun h => ?_, HXW.out⟩
                · rw [HP.out.2.2.2.1, ← HD.out, B_len, decide_eq_false (by have := HWl.out; omega)] at h
                  cases h
                · exact ⟨_, _, _, _, by simp; exact ⟨rfl, rfl, rfl, rfl⟩⟩
    · by_cases h45 : x = 45
      · subst h45
        have hsr : sgnR (B s) = B (S l) := by rw [hB]; rfl
        have hsg : sgnB (B s) = true := by rw [hB]; rfl
        rw [hsr, hsg]
        have htl : (S l).size + 1 = s.size := by have := congrArg List.length hB; rw [B_len] at this; rw [S_size]; simpa using this.symm
        generalize S l = t at ht htl
        obtain ⟨HC, hcs⟩ := sp_ok t
        obtain ⟨c, hc⟩ : ∃ c, spN (B t) = c := ⟨_, rfl⟩
        rw [hc] at HC hcs
        have HC := Lib.hid HC
        have h0z : (0 : Int) < (s.size : Int) := by omega
        have h1z : (1 : Int) ≤ (s.size : Int) := by omega
        have q1 : True := trivial
        have q2 : True := trivial
        clear hc hsr hsg hB he
        go_enter Tryz.func56, Tryz.ntmps56
        go_upto_region 2 with (fail)
        go_quiet (fail)
        go_upto_region 3 with (fail)
        clear hx
        clear q1 q2
        go_wp2_with fail
        go_loopg [7] c (fun g iv wr => ∃ k : Nat, g + k = c ∧ iv = .int .i64 k ∧ Ext [] w wr)
        case atStart => exact ⟨0, by omega, rfl, (Ext.refl _ _).drewN _⟩
        case round =>
          obtain ⟨k, hgk, rfl, hxw⟩ := hrel
          have HXW := Lib.hid hxw
          clear hxw
          by_cases hkc : k < c
          · obtain ⟨g, rfl⟩ : ∃ g, gk = g + 1 := ⟨gk - 1, by omega⟩
            have hks : k < t.size := by omega
            have hltz : (k : Int) < (t.size : Int) := by omega
            have HW := Lib.hid (fun w => digit01_walk (t[k]'hks) w)
            rw [HC.out.inn k hkc hks] at HW
            go_wp2_with fail
            refine (HW.out _).mono ?_
            rintro e w1 ⟨rfl, rfl⟩
            go_wp2_with fail
            go_roundg g
            case measure => omega
            case rel => exact ⟨k + 1, by omega, by go_num, HXW.out⟩
          · obtain rfl : gk = 0 := by omega
            obtain rfl : k = c := by omega
            have hcz : (0 : Int) ≤ (k : Int) := by omega
            have hcz2 : (k : Int) ≤ (t.size : Int) := by omega
            by_cases hcs : k < t.size
            case neg =>
              have hltz : ¬ (k : Int) < (t.size : Int) := by omega
              obtain ⟨f1, f2, f3, f4⟩ := HC.out.all (by omega)
              have hex : t.extract 0 k = t := by rw [show k = t.size by omega, S_ext, ← B_len, List.take_length, List.drop_zero]; rfl
              have HF := Lib.hid (⟨f1, f2, f3, f4⟩ : _ ∧ _ ∧ _ ∧ _)
              clear f1 f2 f3 f4
              go_wp2_with fail
              (try rw [hex])
              have hz0 : ((ByteArray.mk #[]).size : Int) = 0 := rfl
              go_loopg [2, 3, 4, 5, 6, 8] 0 (fun _ a2 a3 a4 a5 a6 iv wx => a2 = .bool true ∧ a3 = .string t ∧ a4 = .string ⟨#[]⟩ ∧ a5 = .bool false ∧ a6 = .bool false ∧ iv = .int .i64 0 ∧ wr = wx)
              case atStart => exact ⟨rfl, rfl, rfl, rfl, rfl, rfl, rfl⟩
              case round =>
                obtain ⟨rfl, rfl, rfl, rfl, rfl, rfl, rfl⟩ := hrel
                by_cases h0 : t.size = 0
                · have hlz : ¬ (0 : Int) < (t.size : Int) := by omega
                  go_wp2_with fail
                  (try simp only [Exit.inBlock, Exit.then])
                  refine bodyPost_ret (results_tmp5 rfl _ _) rfl ⟨fun h => ?_, fun _ => ?_, HXW.out⟩
                  · rw [HF.out.2.2.2, h0] at h
                    cases h
                  · exact ⟨_, _, _, _, by simp; exact ⟨rfl, rfl, rfl, rfl⟩⟩
                · have hlz : (0 : Int) < (t.size : Int) := by omega
                  go_wp2_with fail
                  (try simp only [Exit.inBlock, Exit.then])
                  refine bodyPost_ret (results_tmp5 rfl _ _) rfl ⟨fun h => ?_, fun h => ?_, HXW.out⟩
                  · rw [HF.out.1, HF.out.2.1, HF.out.2.2.1, S_B]
                    simp [S]
                    (try omega)
                  · rw [HF.out.2.2.2, decide_eq_true (by omega)] at h
                    cases h
            case pos =>
            have hltz : (k : Int) < (t.size : Int) := by omega
            have HW := Lib.hid (fun w => digit01_walk (t[k]'hcs) w)
            rw [HC.out.out hcs] at HW
            by_cases h46 : (t[k]'hcs).toNat = 46
            case neg =>
              have hgf := HC.out.bad hcs h46
              obtain ⟨x, hx⟩ : ∃ x, (t[k]'hcs).toNat = x := ⟨_, rfl⟩
              have hx9 : x < 256 := by rw [← hx]; exact UInt8.toNat_lt _
              rw [hx] at HW h46
              have hxb : ((x : Int) == 46) = false := beq_eq_false_iff_ne.2 (by omega)
              have hxi : (t[k]'hcs).toNat = x := hx
              go_wp2_with fail
              refine (HW.out _).mono ?_
              rintro e w1 ⟨rfl, rfl⟩
              go_wp2_with fail
              (try simp only [Exit.inBlock, Exit.then])
              refine bodyPost_ret (results_tmp5 rfl _ _) rfl ⟨fun h => ?_, fun h => ⟨_, _, _, _, rfl⟩, HXW.out⟩
              rw [hgf] at h
              cases h
            case pos =>
            obtain ⟨p1, p2, p3, p4⟩ := HC.out.pt hcs h46
            simp only [h46] at HW
            have hxb : (((t[k]'hcs).toNat : Int) == 46) = true := by rw [h46]; rfl
            obtain ⟨u, hu⟩ : ∃ u, S ((B t).drop (k + 1)) = u := ⟨_, rfl⟩
            have hBu : (B t).drop (k + 1) = B u := by rw [← hu, B_S]
            have hex1 : t.extract 0 k = S ((B t).take k) := by rw [S_ext, List.drop_zero]
            have hex2 : t.extract (k + 1) t.size = u := by rw [S_tail, hu]
            have hul : u.size + (k + 1) = t.size := by rw [← hu, S_size, List.length_drop, B_len]; omega
            have hwl : (S ((B t).take k)).size = k := by rw [S_size, List.length_take, B_len]; omega
            obtain ⟨wh, hwh⟩ : ∃ wh, S ((B t).take k) = wh := ⟨_, rfl⟩
            rw [hBu] at p2 p4
            rw [hwh] at hex1 hwl
            have HP := Lib.hid (⟨p1, p2, p3, p4, hwh⟩ : _ ∧ _ ∧ _ ∧ _ ∧ _)
            have hkz1 : (k : Int) + 1 ≤ (t.size : Int) := by omega
            clear p1 p2 p3 p4 hu hBu hwh
            go_wp2_with fail
            refine (HW.out _).mono ?_
            rintro e w1 ⟨rfl, rfl⟩
            go_wp2_with fail
            (try rw [hex1])
            (try rw [hex2])
            clear hxb hex1 hex2 hkz1
            go_loopg [2, 3, 4, 5, 6, 8] u.size (fun g a2 a3 a4 a5 a6 iv wx => ∃ j : Nat, a2 = .bool true ∧ a3 = .string wh ∧ a4 = .string u ∧ a5 = .bool true ∧ a6 = .bool false ∧ g + j = u.size ∧ iv = .int .i64 j ∧ ((B u).drop j).all digB = (B u).all digB ∧ wr = wx)
            case atStart => exact ⟨0, rfl, rfl, rfl, rfl, rfl, by omega, rfl, rfl, rfl⟩
            case round =>
              obtain ⟨j, rfl, rfl, rfl, rfl, rfl, hgj, rfl, hd, rfl⟩ := hrel
              by_cases hju : j < u.size
              · obtain ⟨g, rfl⟩ : ∃ g, gk = g + 1 := ⟨gk - 1, by omega⟩
                have hjz : (j : Int) < (u.size : Int) := by omega
                rw [B_at u j hju, List.all_cons] at hd
                have HW2 := Lib.hid (fun w => digit01_walk (u[j]'hju) w)
                cases hcd : digB (u[j]'hju) with
                | true =>
                  rw [hcd, Bool.true_and] at hd
                  rw [hcd] at HW2
                  have HD := Lib.hid hd
                  clear hd hcd
                  go_wp2_with fail
                  refine (HW2.out _).mono ?_
                  rintro e w1 ⟨rfl, rfl⟩
                  go_wp2_with fail
                  go_roundg g
                  case measure => omega
                  case rel => exact ⟨j + 1, rfl, rfl, rfl, rfl, rfl, by omega, by go_num, HD.out, rfl⟩
                | false =>
                  rw [hcd, Bool.false_and] at hd
                  rw [hcd] at HW2
                  have HD := Lib.hid hd
                  clear hd hcd
                  go_wp2_with fail
                  refine (HW2.out _).mono ?_
                  rintro e w1 ⟨rfl, rfl⟩
                  go_wp2_with fail
                  (try simp only [Exit.inBlock, Exit.then])
                  refine bodyPost_ret (results_tmp5 rfl _ _) rfl ⟨fun h => ?_, fun h => ⟨_, _, _, _, rfl⟩, HXW.out⟩
                  rw [HP.out.2.2.2.1, ← HD.out] at h
                  cases h
              · obtain rfl : gk = 0 := by omega
                have hjz : ¬ (j : Int) < (u.size : Int) := by omega
                rw [List.drop_of_length_le (by rw [B_len]; omega)] at hd
                have hd : true = (B u).all digB := hd
                have HD := Lib.hid hd
                clear hd
                by_cases h0 : 0 < wh.size + u.size
                · have hlz : (0 : Int) < (wh.size : Int) + (u.size : Int) := by omega
                  have hwl' := hwl
                  clear hwl
                  have HWl := Lib.hid hwl'
                  have b1 : wh.size ≤ 1000000 := by omega
                  have b2 : u.size ≤ 1000000 := by omega
                  clear hwl'
                  go_wp2_with fail
                  (try simp only [Exit.inBlock, Exit.then])
                  refine bodyPost_ret (results_tmp5 rfl _ _) rfl ⟨fun h => ?_, fun h => ?_, HXW.out⟩
                  · rw [HP.out.1, HP.out.2.1, HP.out.2.2.1, HP.out.2.2.2.2, S_B]
                    simp
                  · rw [HP.out.2.2.2.1, ← HD.out, B_len, decide_eq_true (by have := HWl.out; omega)] at h
                    cases h
                · have hlz : ¬ (0 : Int) < (wh.size : Int) + (u.size : Int) := by omega
                  have hwl' := hwl
                  clear hwl
                  have HWl := Lib.hid hwl'
                  have b1 : wh.size ≤ 1000000 := by omega
                  have b2 : u.size ≤ 1000000 := by omega
                  clear hwl'
                  go_wp2_with fail
                  (try simp only [Exit.inBlock, Exit.then])
                  refine bodyPost_ret (results_tmp5 rfl _ _) rfl ⟨fun h => ?_, fun h => ?_, HXW.out⟩
                  · rw [HP.out.2.2.2.1, ← HD.out, B_len, decide_eq_false (by have := HWl.out; omega)] at h
                    cases h
                  · exact ⟨_, _, _, _, by simp; exact ⟨rfl, rfl, rfl, rfl⟩⟩
      · have hn : UInt8.ofNat x ≠ 43 ∧ UInt8.ofNat x ≠ 45 := by
          constructor
          · intro e; have := congrArg UInt8.toNat e; simp at this; omega
          · intro e; have := congrArg UInt8.toNat e; simp at this; omega
        have hsr : sgnR (B s) = B s := by rw [hB]; simp [sgnR, hn.1, hn.2]
        have hsg : sgnB (B s) = false := by rw [hB]; simp [sgnB, hn.2]
        rw [hsr, hsg]
        obtain ⟨t, hst⟩ : ∃ t, s = t := ⟨_, rfl⟩
        subst hst
        obtain ⟨HC, hcs⟩ := sp_ok s
        obtain ⟨c, hc⟩ : ∃ c, spN (B s) = c := ⟨_, rfl⟩
        rw [hc] at HC hcs
        have HC := Lib.hid HC
        clear hc
        have q1 : ((x : Int) == 43) = false := beq_eq_false_iff_ne.2 (by omega)
        have q2 : ((x : Int) == 45) = false := beq_eq_false_iff_ne.2 (by omega)
        have h0z : (0 : Int) < (s.size : Int) := by omega
        clear hsr hsg hB he hn h43 h45 ht
        go_enter Tryz.func56, Tryz.ntmps56
        go_upto_region 3 with (fail)
        clear hx
        clear q1 q2
        go_wp2_with fail
        go_loopg [7] c (fun g iv wr => ∃ k : Nat, g + k = c ∧ iv = .int .i64 k ∧ Ext [] w wr)
        case atStart => exact ⟨0, by omega, rfl, Ext.refl _ _⟩
        case round =>
          obtain ⟨k, hgk, rfl, hxw⟩ := hrel
          have HXW := Lib.hid hxw
          clear hxw
          by_cases hkc : k < c
          · obtain ⟨g, rfl⟩ : ∃ g, gk = g + 1 := ⟨gk - 1, by omega⟩
            have hks : k < s.size := by omega
            have hltz : (k : Int) < (s.size : Int) := by omega
            have HW := Lib.hid (fun w => digit01_walk (s[k]'hks) w)
            rw [HC.out.inn k hkc hks] at HW
            go_wp2_with fail
            refine (HW.out _).mono ?_
            rintro e w1 ⟨rfl, rfl⟩
            go_wp2_with fail
            go_roundg g
            case measure => omega
            case rel => exact ⟨k + 1, by omega, by go_num, HXW.out⟩
          · obtain rfl : gk = 0 := by omega
            obtain rfl : k = c := by omega
            have hcz : (0 : Int) ≤ (k : Int) := by omega
            have hcz2 : (k : Int) ≤ (s.size : Int) := by omega
            by_cases hcs : k < s.size
            case neg =>
              have hltz : ¬ (k : Int) < (s.size : Int) := by omega
              obtain ⟨f1, f2, f3, f4⟩ := HC.out.all (by omega)
              have hex : s.extract 0 k = s := by rw [show k = s.size by omega, S_ext, ← B_len, List.take_length, List.drop_zero]; rfl
              have HF := Lib.hid (⟨f1, f2, f3, f4⟩ : _ ∧ _ ∧ _ ∧ _)
              clear f1 f2 f3 f4
              go_wp2_with fail
              (try rw [hex])
              have hz0 : ((ByteArray.mk #[]).size : Int) = 0 := rfl
              go_loopg [2, 3, 4, 5, 6, 8] 0 (fun _ a2 a3 a4 a5 a6 iv wx => a2 = .bool false ∧ a3 = .string s ∧ a4 = .string ⟨#[]⟩ ∧ a5 = .bool false ∧ a6 = .bool false ∧ iv = .int .i64 0 ∧ wr = wx)
              case atStart => exact ⟨rfl, rfl, rfl, rfl, rfl, rfl, rfl⟩
              case round =>
                obtain ⟨rfl, rfl, rfl, rfl, rfl, rfl, rfl⟩ := hrel
                by_cases h0 : s.size = 0
                · have hlz : ¬ (0 : Int) < (s.size : Int) := by omega
                  go_wp2_with fail
                  (try simp only [Exit.inBlock, Exit.then])
                  refine bodyPost_ret (results_tmp5 rfl _ _) rfl ⟨fun h => ?_, fun _ => ?_, HXW.out⟩
                  · rw [HF.out.2.2.2, h0] at h
                    cases h
                  · exact ⟨_, _, _, _, by simp; exact ⟨rfl, rfl, rfl, rfl⟩⟩
                · have hlz : (0 : Int) < (s.size : Int) := by omega
                  go_wp2_with fail
                  (try simp only [Exit.inBlock, Exit.then])
                  refine bodyPost_ret (results_tmp5 rfl _ _) rfl ⟨fun h => ?_, fun h => ?_, HXW.out⟩
                  · rw [HF.out.1, HF.out.2.1, HF.out.2.2.1, S_B]
                    simp [S]
                    (try omega)
                  · rw [HF.out.2.2.2, decide_eq_true (by omega)] at h
                    cases h
            case pos =>
            have hltz : (k : Int) < (s.size : Int) := by omega
            have HW := Lib.hid (fun w => digit01_walk (s[k]'hcs) w)
            rw [HC.out.out hcs] at HW
            by_cases h46 : (s[k]'hcs).toNat = 46
            case neg =>
              have hgf := HC.out.bad hcs h46
              obtain ⟨x, hx⟩ : ∃ x, (s[k]'hcs).toNat = x := ⟨_, rfl⟩
              have hx9 : x < 256 := by rw [← hx]; exact UInt8.toNat_lt _
              rw [hx] at HW h46
              have hxb : ((x : Int) == 46) = false := beq_eq_false_iff_ne.2 (by omega)
              have hxi : (s[k]'hcs).toNat = x := hx
              go_wp2_with fail
              refine (HW.out _).mono ?_
              rintro e w1 ⟨rfl, rfl⟩
              go_wp2_with fail
              (try simp only [Exit.inBlock, Exit.then])
              refine bodyPost_ret (results_tmp5 rfl _ _) rfl ⟨fun h => ?_, fun h => ⟨_, _, _, _, rfl⟩, HXW.out⟩
              rw [hgf] at h
              cases h
            case pos =>
            obtain ⟨p1, p2, p3, p4⟩ := HC.out.pt hcs h46
            simp only [h46] at HW
            have hxb : (((s[k]'hcs).toNat : Int) == 46) = true := by rw [h46]; rfl
            obtain ⟨u, hu⟩ : ∃ u, S ((B s).drop (k + 1)) = u := ⟨_, rfl⟩
            have hBu : (B s).drop (k + 1) = B u := by rw [← hu, B_S]
            have hex1 : s.extract 0 k = S ((B s).take k) := by rw [S_ext, List.drop_zero]
            have hex2 : s.extract (k + 1) s.size = u := by rw [S_tail, hu]
            have hul : u.size + (k + 1) = s.size := by rw [← hu, S_size, List.length_drop, B_len]; omega
            have hwl : (S ((B s).take k)).size = k := by rw [S_size, List.length_take, B_len]; omega
            obtain ⟨wh, hwh⟩ : ∃ wh, S ((B s).take k) = wh := ⟨_, rfl⟩
            rw [hBu] at p2 p4
            rw [hwh] at hex1 hwl
            have HP := Lib.hid (⟨p1, p2, p3, p4, hwh⟩ : _ ∧ _ ∧ _ ∧ _ ∧ _)
            have hkz1 : (k : Int) + 1 ≤ (s.size : Int) := by omega
            clear p1 p2 p3 p4 hu hBu hwh
            go_wp2_with fail
            refine (HW.out _).mono ?_
            rintro e w1 ⟨rfl, rfl⟩
            go_wp2_with fail
            (try rw [hex1])
            (try rw [hex2])
            clear hxb hex1 hex2 hkz1
            go_loopg [2, 3, 4, 5, 6, 8] u.size (fun g a2 a3 a4 a5 a6 iv wx => ∃ j : Nat, a2 = .bool false ∧ a3 = .string wh ∧ a4 = .string u ∧ a5 = .bool true ∧ a6 = .bool false ∧ g + j = u.size ∧ iv = .int .i64 j ∧ ((B u).drop j).all digB = (B u).all digB ∧ wr = wx)
            case atStart => exact ⟨0, rfl, rfl, rfl, rfl, rfl, by omega, rfl, rfl, rfl⟩
            case round =>
              obtain ⟨j, rfl, rfl, rfl, rfl, rfl, hgj, rfl, hd, rfl⟩ := hrel
              by_cases hju : j < u.size
              · obtain ⟨g, rfl⟩ : ∃ g, gk = g + 1 := ⟨gk - 1, by omega⟩
                have hjz : (j : Int) < (u.size : Int) := by omega
                rw [B_at u j hju, List.all_cons] at hd
                have HW2 := Lib.hid (fun w => digit01_walk (u[j]'hju) w)
                cases hcd : digB (u[j]'hju) with
                | true =>
                  rw [hcd, Bool.true_and] at hd
                  rw [hcd] at HW2
                  have HD := Lib.hid hd
                  clear hd hcd
                  go_wp2_with fail
                  refine (HW2.out _).mono ?_
                  rintro e w1 ⟨rfl, rfl⟩
                  go_wp2_with fail
                  go_roundg g
                  case measure => omega
                  case rel => exact ⟨j + 1, rfl, rfl, rfl, rfl, rfl, by omega, by go_num, HD.out, rfl⟩
                | false =>
                  rw [hcd, Bool.false_and] at hd
                  rw [hcd] at HW2
                  have HD := Lib.hid hd
                  clear hd hcd
                  go_wp2_with fail
                  refine (HW2.out _).mono ?_
                  rintro e w1 ⟨rfl, rfl⟩
                  go_wp2_with fail
                  (try simp only [Exit.inBlock, Exit.then])
                  refine bodyPost_ret (results_tmp5 rfl _ _) rfl ⟨fun h => ?_, fun h => ⟨_, _, _, _, rfl⟩, HXW.out⟩
                  rw [HP.out.2.2.2.1, ← HD.out] at h
                  cases h
              · obtain rfl : gk = 0 := by omega
                have hjz : ¬ (j : Int) < (u.size : Int) := by omega
                rw [List.drop_of_length_le (by rw [B_len]; omega)] at hd
                have hd : true = (B u).all digB := hd
                have HD := Lib.hid hd
                clear hd
                by_cases h0 : 0 < wh.size + u.size
                · have hlz : (0 : Int) < (wh.size : Int) + (u.size : Int) := by omega
                  have hwl' := hwl
                  clear hwl
                  have HWl := Lib.hid hwl'
                  have b1 : wh.size ≤ 1000000 := by omega
                  have b2 : u.size ≤ 1000000 := by omega
                  clear hwl'
                  go_wp2_with fail
                  (try simp only [Exit.inBlock, Exit.then])
                  refine bodyPost_ret (results_tmp5 rfl _ _) rfl ⟨fun h => ?_, fun h => ?_, HXW.out⟩
                  · rw [HP.out.1, HP.out.2.1, HP.out.2.2.1, HP.out.2.2.2.2, S_B]
                    simp
                  · rw [HP.out.2.2.2.1, ← HD.out, B_len, decide_eq_true (by have := HWl.out; omega)] at h
                    cases h
                · have hlz : ¬ (0 : Int) < (wh.size : Int) + (u.size : Int) := by omega
                  have hwl' := hwl
                  clear hwl
                  have HWl := Lib.hid hwl'
                  have b1 : wh.size ≤ 1000000 := by omega
                  have b2 : u.size ≤ 1000000 := by omega
                  clear hwl'
                  go_wp2_with fail
                  (try simp only [Exit.inBlock, Exit.then])
                  refine bodyPost_ret (results_tmp5 rfl _ _) rfl ⟨fun h => ?_, fun h => ?_, HXW.out⟩
                  · rw [HP.out.2.2.2.1, ← HD.out, B_len, decide_eq_false (by have := HWl.out; omega)] at h
                    cases h
                  · exact ⟨_, _, _, _, by simp; exact ⟨rfl, rfl, rfl, rfl⟩⟩
end Go.Proofs.YtgpgamohcafklaaGreatDoor.Nu
