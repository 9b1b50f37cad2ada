/-
  The document's numbers: canon, Real walked; names checked.
-/
import Derived.Test.YtgpgamohcafklaaGreatDoorTtS
namespace Go.Proofs.YtgpgamohcafklaaGreatDoor.Nu
open Go.RowKit

theorem last_parts (s : ByteArray) : (s.size = 0 ∧ B s = []) ∨ ∃ (n : Nat) (h : n < s.size) (v : Nat) (l : List UInt8), s.size = n + 1 ∧ (s[n]'h).toNat = v ∧ v < 256 ∧ B s = l ++ [UInt8.ofNat v] ∧ s.extract 0 n = S l := by
  rcases List.eq_nil_or_concat (B s) with h | ⟨l, x, h⟩
  · exact .inl ⟨by rw [← B_len, h]; rfl, h⟩
  · have h := h
    rw [List.concat_eq_append] at h
    have hl : s.size = l.length + 1 := by rw [← B_len, h]; simp
    have hx : s[l.length]'(by omega) = x := by
      have h2 := B_at s l.length (by omega)
      rw [h, List.drop_left] at h2
      exact (List.cons.inj h2).1.symm
    refine .inr ⟨l.length, by omega, x.toNat, l, hl, by rw [hx], x.toNat_lt, by rw [h]; simp, ?_⟩
    rw [S_ext, h, List.take_left, List.drop_zero]
theorem tl_48 (l : List UInt8) : tl (48 :: l) = tl l := by simp [tl, Lib.trimLeftB]
theorem tl_not {x : UInt8} (l : List UInt8) (h : x ≠ 48) : tl (x :: l) = x :: l := by simp [tl, Lib.trimLeftB, h]
theorem tr_48 (l : List UInt8) : tr (l ++ [48]) = tr l := by simp [tr, Lib.trimRightB]
theorem tr_not {x : UInt8} (l : List UInt8) (h : x ≠ 48) : tr (l ++ [x]) = l ++ [x] := by simp [tr, Lib.trimRightB, h]
set_option maxRecDepth 100000 in
set_option maxHeartbeats 4000000 in
theorem canon_walk (s r : ByteArray) (w : World) (hs : s.size ≤ 1000000) (hr : r.size ≤ 1000000) : Calls Tryz.prog 57 #[.string s, .string r] w fun e w' => e = .returned (.tuple #[.string (S (tl (B s))), .string (S (tr (B r)))]) ∧ w = w' := by
  obtain ⟨A, hA⟩ : ∃ A, tl (B s) = A := ⟨_, rfl⟩
  obtain ⟨C, hC⟩ : ∃ C, tr (B r) = C := ⟨_, rfl⟩
  rw [hA, hC]
  have HA := Lib.hid (⟨hA, hC⟩ : _ ∧ _)
  clear hA hC
  go_enter Tryz.func57, Tryz.ntmps57
  go_wp2_with fail
  go_loopg [0] s.size (fun g sv wr => ∃ t : ByteArray, sv = .string t ∧ g = t.size ∧ t.size ≤ 1000000 ∧ tl (B t) = A ∧ w = wr)
  case atStart => exact ⟨s, rfl, rfl, hs, HA.out.1, rfl⟩
  case round =>
    obtain ⟨t, rfl, rfl, htl, hA, rfl⟩ := hrel
    rcases head_parts t with ⟨h0, hB, he⟩ | ⟨he, h0, x, l, hx, hx9, hB, ht⟩
    · have hz : ¬ (0 : Int) < (t.size : Int) := by omega
      have hAt : S A = t := by rw [← hA, hB]; show S [] = t; rw [← S_B t, hB]
      have HT := Lib.hid hAt
      clear hB he hA hAt h0
      go_wp2_with fail
      go_loopg [1] r.size (fun g sv wr => ∃ u : ByteArray, sv = .string u ∧ g = u.size ∧ u.size ≤ 1000000 ∧ tr (B u) = C ∧ w = wr)
      case atStart => exact ⟨r, rfl, rfl, hr, HA.out.2, rfl⟩
      case round =>
      obtain ⟨u, rfl, rfl, hul, hC, rfl⟩ := hrel
      rcases last_parts u with ⟨h0, hB⟩ | ⟨n, hn, x, l, hun, hx, hx9, hB, hex⟩
      · have hz : ¬ (0 : Int) < (u.size : Int) := by omega
        have hCu : S C = u := by rw [← hC, hB]; show S [] = u; rw [← S_B u, hB]
        have HU := Lib.hid hCu
        clear hB hC hCu h0
        go_wp2_with fail
        go_ret2
        exact ⟨by rw [HT.out, HU.out]; rfl, rfl⟩
      · have hz : (0 : Int) < (u.size : Int) := by omega
        have hsz : (u.size : Int) - 1 = (n : Int) := by omega
        have hnz : (n : Int) < (u.size : Int) := by omega
        have hnz2 : (n : Int) ≤ (u.size : Int) := by omega
        by_cases h48 : x = 48
        · subst h48
          have hC2 : tr (B (S l)) = C := by rw [← hC, hB, B_S]; exact (tr_48 l).symm
          have hls : (S l).size = n := by have := congrArg List.length hB; rw [B_len, List.length_append, List.length_singleton] at this; rw [S_size]; omega
          generalize S l = u2 at hex hC2 hls
          have HU := Lib.hid (⟨hC2, hls, hun⟩ : _ ∧ _ ∧ _)
          clear hB hC hC2 hls hun
          go_wp2_with fail
          go_roundg u2.size
          case measure => have := HU.out.2; omega
          case rel => exact ⟨u2, rfl, rfl, by have := HU.out.2; omega, HU.out.1, rfl⟩
        · have hxb : ((x : Int) == 48) = false := beq_eq_false_iff_ne.2 (by omega)
          have hCu : S C = u := by
            rw [← hC, hB, tr_not l (fun e => h48 (by have := congrArg UInt8.toNat e; simp at this; omega)), ← hB]; rfl
          have HU := Lib.hid hCu
          clear hB hC hCu h48 hex hun
          go_wp2_with fail
          go_ret2
          exact ⟨by rw [HT.out, HU.out]; rfl, rfl⟩
    · by_cases h48 : x = 48
      · subst h48
        have hz : (0 : Int) < (t.size : Int) := by omega
        have h1z : (1 : Int) ≤ (t.size : Int) := by omega
        have hA2 : tl (B (S l)) = A := by rw [← hA, hB, B_S]; exact (tl_48 l).symm
        have hsz : (S l).size + 1 = t.size := by have := congrArg List.length hB; rw [B_len] at this; rw [S_size]; simpa using this.symm
        generalize S l = t2 at ht hA2 hsz
        have HT := Lib.hid hA2
        clear hB he hA hA2
        go_wp2_with fail
        go_roundg t2.size
        case measure => omega
        case rel => exact ⟨t2, rfl, rfl, by omega, HT.out, rfl⟩
      · have hz : (0 : Int) < (t.size : Int) := by omega
        have hxb : ((x : Int) == 48) = false := beq_eq_false_iff_ne.2 (by omega)
        have hAt : S A = t := by
          rw [← hA, hB, tl_not l (fun e => h48 (by have := congrArg UInt8.toNat e; simp at this; omega)), ← hB]; rfl
        have HT := Lib.hid hAt
        clear hB he hA hAt h48 ht
        go_wp2_with fail
        go_loopg [1] r.size (fun g sv wr => ∃ u : ByteArray, sv = .string u ∧ g = u.size ∧ u.size ≤ 1000000 ∧ tr (B u) = C ∧ w = wr)
        case atStart => exact ⟨r, rfl, rfl, hr, HA.out.2, rfl⟩
        case round =>
        obtain ⟨u, rfl, rfl, hul, hC, rfl⟩ := hrel
        rcases last_parts u with ⟨h0, hB⟩ | ⟨n, hn, x, l, hun, hx, hx9, hB, hex⟩
        · have hz : ¬ (0 : Int) < (u.size : Int) := by omega
          have hCu : S C = u := by rw [← hC, hB]; show S [] = u; rw [← S_B u, hB]
          have HU := Lib.hid hCu
          clear hB hC hCu h0
          go_wp2_with fail
          go_ret2
          exact ⟨by rw [HT.out, HU.out]; rfl, rfl⟩
        · have hz : (0 : Int) < (u.size : Int) := by omega
          have hsz : (u.size : Int) - 1 = (n : Int) := by omega
          have hnz : (n : Int) < (u.size : Int) := by omega
          have hnz2 : (n : Int) ≤ (u.size : Int) := by omega
          by_cases h48 : x = 48
          · subst h48
            have hC2 : tr (B (S l)) = C := by rw [← hC, hB, B_S]; exact (tr_48 l).symm
            have hls : (S l).size = n := by have := congrArg List.length hB; rw [B_len, List.length_append, List.length_singleton] at this; rw [S_size]; omega
            generalize S l = u2 at hex hC2 hls
            have HU := Lib.hid (⟨hC2, hls, hun⟩ : _ ∧ _ ∧ _)
            clear hB hC hC2 hls hun
            go_wp2_with fail
            go_roundg u2.size
            case measure => have := HU.out.2; omega
            case rel => exact ⟨u2, rfl, rfl, by have := HU.out.2; omega, HU.out.1, rfl⟩
          · have hxb : ((x : Int) == 48) = false := beq_eq_false_iff_ne.2 (by omega)
            have hCu : S C = u := by
              rw [← hC, hB, tr_not l (fun e => h48 (by have := congrArg UInt8.toNat e; simp at this; omega)), ← hB]; rfl
            have HU := Lib.hid hCu
            clear hB hC hCu h48 hex hun
            go_wp2_with fail
            go_ret2
            exact ⟨by rw [HT.out, HU.out]; rfl, rfl⟩
theorem tl_le (l : List UInt8) : (tl l).length ≤ l.length := by unfold tl Lib.trimLeftB; exact (List.dropWhile_sublist _).length_le
theorem tr_le (l : List UInt8) : (tr l).length ≤ l.length := by
  unfold tr Lib.trimRightB
  rw [List.length_reverse]
  have := (List.dropWhile_sublist (l := l.reverse) (fun x : UInt8 => x == 48)).length_le
  rwa [List.length_reverse] at this
set_option maxRecDepth 100000 in
set_option maxHeartbeats 4000000 in
theorem real02_walk (s : ByteArray) (w : World) (hs : s.size ≤ 1000000) : Calls Tryz.prog 49 #[.string s] w fun e w' => e = .returned (.tuple #[.string (S (realN (B s)).1), .int .i64 (realN (B s)).2]) ∧ Ext [] w w' := by
  have H := Lib.hid (split_walk s w hs)
  obtain ⟨R, hR⟩ : ∃ R, realN (B s) = R := ⟨_, rfl⟩
  rw [hR]
  have hc : cutN (B s) = if goodL (sgnR (B s)) then ⟨if hasL (sgnR (B s)) then 2 else 1, sgnB (B s), befL (sgnR (B s)), aftL (sgnR (B s))⟩ else ⟨0, false, [], []⟩ := rfl
  have hle := bef_sum (sgnR (B s))
  have hsr : (sgnR (B s)).length ≤ 1000000 := by
    have : (sgnR (B s)).length ≤ (B s).length := by unfold sgnR; split <;> simp
    rw [B_len] at this
    omega
  cases hg : goodL (sgnR (B s)) with
  | false =>
    have hRv : R = ([], 7) := by
      rw [← hR, realN, hc, hg]
      rfl
    subst hRv
    rw [hg] at H
    clear hR hc hle hsr hg
    go_enter Tryz.func49, Tryz.ntmps49
    go_wp2_with fail
    refine H.out.mono ?_
    rintro e w1 ⟨-, h, hx⟩
    obtain ⟨n, a, b, p, rfl⟩ := h (by simp)
    have HX := Lib.hid hx
    clear hx H
    go_wp2_with fail
    go_ret2
    exact ⟨rfl, HX.out⟩
  | true =>
  rw [hg] at H hc
  rw [if_pos rfl] at hc
  obtain ⟨ng, hng⟩ : ∃ b, sgnB (B s) = b := ⟨_, rfl⟩
  obtain ⟨a, ha⟩ : ∃ b, befL (sgnR (B s)) = b := ⟨_, rfl⟩
  obtain ⟨b, hb⟩ : ∃ b, aftL (sgnR (B s)) = b := ⟨_, rfl⟩
  obtain ⟨pt, hpt⟩ : ∃ b, hasL (sgnR (B s)) = b := ⟨_, rfl⟩
  rw [hng, ha, hb, hpt] at H hc
  rw [ha, hb] at hle
  clear hng ha hb hpt hg
  cases pt with
  | false =>
    have hRv : R = ([], 7) := by
      rw [← hR, realN, hc]
      rfl
    subst hRv
    clear hR hc hle hsr
    go_enter Tryz.func49, Tryz.ntmps49
    go_wp2_with fail
    refine H.out.mono ?_
    rintro e w1 ⟨h, -, hx⟩
    obtain rfl := h (by simp)
    have HX := Lib.hid hx
    clear hx H h
    go_wp2_with fail
    go_ret2
    exact ⟨rfl, HX.out⟩
  | true =>
  have hc : cutN (B s) = ⟨2, ng, a, b⟩ := hc
  have hsa : (S a).size = a.length := rfl
  have hsb : (S b).size = b.length := rfl
  obtain ⟨sa, hsa'⟩ : ∃ x, S a = x := ⟨_, rfl⟩
  obtain ⟨sb, hsb'⟩ : ∃ x, S b = x := ⟨_, rfl⟩
  have hba : B sa = a := by rw [← hsa']; rfl
  have hbb : B sb = b := by rw [← hsb']; rfl
  rw [hsa', hsb'] at H
  rw [hsa'] at hsa
  rw [hsb'] at hsb
  have hl1 : sa.size + sb.size ≤ 1000000 := by omega
  rw [realN, hc] at hR
  have hk : ¬ ((2 : Nat) ≠ 2) := by simp
  rw [if_neg hk, longN] at hR
  simp only at hR
  by_cases hlong : 64 < a.length + b.length
  · have hRv : R = ([], 3) := by rw [← hR, if_pos (by simpa using hlong)]
    subst hRv
    have hz : (64 : Int) < (sa.size : Int) + (sb.size : Int) := by omega
    clear hR hc hle hsr hba hbb hsa' hsb' hsa hsb hlong hk
    go_enter Tryz.func49, Tryz.ntmps49
    go_wp2_with fail
    refine H.out.mono ?_
    rintro e w1 ⟨h, -, hx⟩
    obtain rfl := h (by simp)
    have HX := Lib.hid hx
    clear hx H h
    go_wp2_with fail
    go_ret2
    exact ⟨rfl, HX.out⟩
  · rw [if_neg (by simpa using hlong)] at hR
    have hz : ¬ (64 : Int) < (sa.size : Int) + (sb.size : Int) := by omega
    have HC := Lib.hid (fun W => canon_walk sa sb W (by omega) (by omega))
    rw [hba, hbb] at HC
    unfold bareN at hR
    simp only at hR
    obtain ⟨c, hcc⟩ : ∃ c, tl a = c := ⟨_, rfl⟩
    obtain ⟨d, hdd⟩ : ∃ d, tr b = d := ⟨_, rfl⟩
    have hcl := tl_le a
    have hdl := tr_le b
    rw [hcc] at HC hR hcl
    rw [hdd] at HC hR hdl
    have HR := Lib.hid hR
    have HL := Lib.hid (⟨hcl, hdl, hlong⟩ : _ ∧ _ ∧ _)
    clear hR hc hle hsr hba hbb hsa' hsb' hsa hsb hlong hk hcc hdd hcl hdl
    go_enter Tryz.func49, Tryz.ntmps49
    go_wp2_with fail
    refine H.out.mono ?_
    rintro e w1 ⟨h, -, hx⟩
    obtain rfl := h (by simp)
    have HX := Lib.hid hx
    clear hx H h
    go_wp2_with fail
    refine (HC.out _).mono ?_
    rintro e w2 ⟨rfl, rfl⟩
    clear HC hz
    obtain ⟨sC, hsC⟩ : ∃ x, S c = x := ⟨_, rfl⟩
    obtain ⟨sD, hsD⟩ : ∃ x, S d = x := ⟨_, rfl⟩
    have hCl : sC.size = c.length := by rw [← hsC]; rfl
    have hDl : sD.size = d.length := by rw [← hsD]; rfl
    have b1 : sC.size ≤ 1000000 := by have := HL.out; omega
    have b2 : sD.size ≤ 1000000 := by have := HL.out; omega
    rw [hsC, hsD]
    clear hc
    by_cases h1 : c = []
    · skip
      by_cases h2 : d = []
      · skip
        cases ng with
        | false =>
          have hneg : (false && !(c ++ d).isEmpty) = false := by cases c <;> cases d <;> simp_all
          have HRR := HR.out
          rw [hneg] at HRR
          have ho1 : (orS c).length = 1 := by cases c <;> simp_all [orS]
          have ho2 : (orS d).length = 1 := by cases d <;> simp_all [orS]
          have hw1 : S (orS c) = ⟨#[48]⟩ := by cases c <;> simp_all [orS, S]
          have hw2 : S (orS d) = ⟨#[48]⟩ := by cases d <;> simp_all [orS, S]
          have z1 : ((sC.size : Int) == 0) = true := by rw [hCl, h1]; rfl
          have z2 : ((sD.size : Int) == 0) = true := by rw [hDl, h2]; rfl
          have z3 : True := trivial
          have z4 : sC.size = 0 := by rw [hCl, h1]; rfl
          have z5 : sD.size = 0 := by rw [hDl, h2]; rfl
          by_cases hlong : 64 < (orS c).length + (orS d).length
          · have hRv : R = ([], 3) := by rw [← HRR, if_pos (by simpa [longN] using hlong)]
            subst hRv
            omega
          · have hRv : R = (txtN ⟨2, false, c, d⟩, 0) := by rw [← HRR, if_neg (by simpa [longN] using hlong)]
            have hT : S (txtN ⟨2, false, c, d⟩) = ⟨#[48]⟩ ++ ⟨#[46]⟩ ++ ⟨#[48]⟩ := by
              have e : S (txtN ⟨2, false, c, d⟩) = S (orS c) ++ S [46] ++ S (orS d) := by
                rw [txtN]
                simp only [S_app]
                (try rfl)
              rw [e, hw1, hw2]
              (try rfl)
            have HT := Lib.hid hT
            clear hneg HRR ho1 ho2 hw1 hw2 hlong h1 h2 HR HL hCl hDl hsC hsD hT
            go_wp2_with fail
            go_ret2
            exact ⟨by rw [hRv, HT.out]; rfl, HX.out⟩
        | true =>
          have hneg : (true && !(c ++ d).isEmpty) = false := by cases c <;> cases d <;> simp_all
          have HRR := HR.out
          rw [hneg] at HRR
          have ho1 : (orS c).length = 1 := by cases c <;> simp_all [orS]
          have ho2 : (orS d).length = 1 := by cases d <;> simp_all [orS]
          have hw1 : S (orS c) = ⟨#[48]⟩ := by cases c <;> simp_all [orS, S]
          have hw2 : S (orS d) = ⟨#[48]⟩ := by cases d <;> simp_all [orS, S]
          have z1 : ((sC.size : Int) == 0) = true := by rw [hCl, h1]; rfl
          have z2 : ((sD.size : Int) == 0) = true := by rw [hDl, h2]; rfl
          have z3 : ¬ (0 : Int) < (sC.size : Int) + (sD.size : Int) := by rw [hCl, hDl, h1, h2]; simp
          have z4 : sC.size = 0 := by rw [hCl, h1]; rfl
          have z5 : sD.size = 0 := by rw [hDl, h2]; rfl
          by_cases hlong : 64 < (orS c).length + (orS d).length
          · have hRv : R = ([], 3) := by rw [← HRR, if_pos (by simpa [longN] using hlong)]
            subst hRv
            omega
          · have hRv : R = (txtN ⟨2, false, c, d⟩, 0) := by rw [← HRR, if_neg (by simpa [longN] using hlong)]
            have hT : S (txtN ⟨2, false, c, d⟩) = ⟨#[48]⟩ ++ ⟨#[46]⟩ ++ ⟨#[48]⟩ := by
              have e : S (txtN ⟨2, false, c, d⟩) = S (orS c) ++ S [46] ++ S (orS d) := by
                rw [txtN]
                simp only [S_app]
                (try rfl)
              rw [e, hw1, hw2]
              (try rfl)
            have HT := Lib.hid hT
            clear hneg HRR ho1 ho2 hw1 hw2 hlong h1 h2 HR HL hCl hDl hsC hsD hT
            go_wp2_with fail
            go_ret2
            exact ⟨by rw [hRv, HT.out]; rfl, HX.out⟩
      · skip
        cases ng with
        | false =>
          have hneg : (false && !(c ++ d).isEmpty) = false := by cases c <;> cases d <;> simp_all
          have HRR := HR.out
          rw [hneg] at HRR
          have ho1 : (orS c).length = 1 := by cases c <;> simp_all [orS]
          have ho2 : (orS d).length = d.length := by cases d <;> simp_all [orS]
          have hw1 : S (orS c) = ⟨#[48]⟩ := by cases c <;> simp_all [orS, S]
          have hw2 : S (orS d) = sD := by cases d <;> simp_all [orS, S]
          have z1 : ((sC.size : Int) == 0) = true := by rw [hCl, h1]; rfl
          have z2 : ((sD.size : Int) == 0) = false := beq_eq_false_iff_ne.2 (by have := List.length_pos_iff.2 h2; omega)
          have z3 : True := trivial
          have z4 : sC.size = 0 := by rw [hCl, h1]; rfl
          by_cases hlong : 64 < (orS c).length + (orS d).length
          · have hRv : R = ([], 3) := by rw [← HRR, if_pos (by simpa [longN] using hlong)]
            have hz : (64 : Int) < 1 + (sD.size : Int) := by omega
            subst hRv
            clear hneg HRR ho1 ho2 hw1 hw2 hlong h1 h2 HR HL hCl hDl hsC hsD
            go_wp2_with fail
            go_ret2
            exact ⟨rfl, HX.out⟩
          · have hRv : R = (txtN ⟨2, false, c, d⟩, 0) := by rw [← HRR, if_neg (by simpa [longN] using hlong)]
            have hz : ¬ (64 : Int) < 1 + (sD.size : Int) := by omega
            have hT : S (txtN ⟨2, false, c, d⟩) = ⟨#[48]⟩ ++ ⟨#[46]⟩ ++ sD := by
              have e : S (txtN ⟨2, false, c, d⟩) = S (orS c) ++ S [46] ++ S (orS d) := by
                rw [txtN]
                simp only [S_app]
                (try rfl)
              rw [e, hw1, hw2]
              (try rfl)
            have HT := Lib.hid hT
            clear hneg HRR ho1 ho2 hw1 hw2 hlong h1 h2 HR HL hCl hDl hsC hsD hT
            go_wp2_with fail
            go_ret2
            exact ⟨by rw [hRv, HT.out]; rfl, HX.out⟩
        | true =>
          have hneg : (true && !(c ++ d).isEmpty) = true := by cases c <;> cases d <;> simp_all
          have HRR := HR.out
          rw [hneg] at HRR
          have ho1 : (orS c).length = 1 := by cases c <;> simp_all [orS]
          have ho2 : (orS d).length = d.length := by cases d <;> simp_all [orS]
          have hw1 : S (orS c) = ⟨#[48]⟩ := by cases c <;> simp_all [orS, S]
          have hw2 : S (orS d) = sD := by cases d <;> simp_all [orS, S]
          have z1 : ((sC.size : Int) == 0) = true := by rw [hCl, h1]; rfl
          have z2 : ((sD.size : Int) == 0) = false := beq_eq_false_iff_ne.2 (by have := List.length_pos_iff.2 h2; omega)
          have z3 :  (0 : Int) < (sC.size : Int) + (sD.size : Int) := by have := List.length_pos_iff.2 h2; omega
          have z4 : sC.size = 0 := by rw [hCl, h1]; rfl
          by_cases hlong : 64 < (orS c).length + (orS d).length
          · have hRv : R = ([], 3) := by rw [← HRR, if_pos (by simpa [longN] using hlong)]
            have hz : (64 : Int) < 1 + (sD.size : Int) := by omega
            subst hRv
            clear hneg HRR ho1 ho2 hw1 hw2 hlong h1 h2 HR HL hCl hDl hsC hsD
            go_wp2_with fail
            go_ret2
            exact ⟨rfl, HX.out⟩
          · have hRv : R = (txtN ⟨2, true, c, d⟩, 0) := by rw [← HRR, if_neg (by simpa [longN] using hlong)]
            have hz : ¬ (64 : Int) < 1 + (sD.size : Int) := by omega
            have hT : S (txtN ⟨2, true, c, d⟩) = ⟨#[45]⟩ ++ ⟨#[48]⟩ ++ ⟨#[46]⟩ ++ sD := by
              have e : S (txtN ⟨2, true, c, d⟩) = S [45] ++ S (orS c) ++ S [46] ++ S (orS d) := by
                rw [txtN]
                simp only [S_app]
                (try rfl)
              rw [e, hw1, hw2]
              (try rfl)
            have HT := Lib.hid hT
            clear hneg HRR ho1 ho2 hw1 hw2 hlong h1 h2 HR HL hCl hDl hsC hsD hT
            go_wp2_with fail
            go_ret2
            exact ⟨by rw [hRv, HT.out]; rfl, HX.out⟩
    · skip
      by_cases h2 : d = []
      · skip
        cases ng with
        | false =>
          have hneg : (false && !(c ++ d).isEmpty) = false := by cases c <;> cases d <;> simp_all
          have HRR := HR.out
          rw [hneg] at HRR
          have ho1 : (orS c).length = c.length := by cases c <;> simp_all [orS]
          have ho2 : (orS d).length = 1 := by cases d <;> simp_all [orS]
          have hw1 : S (orS c) = sC := by cases c <;> simp_all [orS, S]
          have hw2 : S (orS d) = ⟨#[48]⟩ := by cases d <;> simp_all [orS, S]
          have z1 : ((sC.size : Int) == 0) = false := beq_eq_false_iff_ne.2 (by have := List.length_pos_iff.2 h1; omega)
          have z2 : ((sD.size : Int) == 0) = true := by rw [hDl, h2]; rfl
          have z3 : True := trivial
          have z5 : sD.size = 0 := by rw [hDl, h2]; rfl
          by_cases hlong : 64 < (orS c).length + (orS d).length
          · have hRv : R = ([], 3) := by rw [← HRR, if_pos (by simpa [longN] using hlong)]
            have hz : (64 : Int) < (sC.size : Int) + 1 := by omega
            subst hRv
            clear hneg HRR ho1 ho2 hw1 hw2 hlong h1 h2 HR HL hCl hDl hsC hsD
            go_wp2_with fail
            go_ret2
            exact ⟨rfl, HX.out⟩
          · have hRv : R = (txtN ⟨2, false, c, d⟩, 0) := by rw [← HRR, if_neg (by simpa [longN] using hlong)]
            have hz : ¬ (64 : Int) < (sC.size : Int) + 1 := by omega
            have hT : S (txtN ⟨2, false, c, d⟩) = sC ++ ⟨#[46]⟩ ++ ⟨#[48]⟩ := by
              have e : S (txtN ⟨2, false, c, d⟩) = S (orS c) ++ S [46] ++ S (orS d) := by
                rw [txtN]
                simp only [S_app]
                (try rfl)
              rw [e, hw1, hw2]
              (try rfl)
            have HT := Lib.hid hT
            clear hneg HRR ho1 ho2 hw1 hw2 hlong h1 h2 HR HL hCl hDl hsC hsD hT
            go_wp2_with fail
            go_ret2
            exact ⟨by rw [hRv, HT.out]; rfl, HX.out⟩
        | true =>
          have hneg : (true && !(c ++ d).isEmpty) = true := by cases c <;> cases d <;> simp_all
          have HRR := HR.out
          rw [hneg] at HRR
          have ho1 : (orS c).length = c.length := by cases c <;> simp_all [orS]
          have ho2 : (orS d).length = 1 := by cases d <;> simp_all [orS]
          have hw1 : S (orS c) = sC := by cases c <;> simp_all [orS, S]
          have hw2 : S (orS d) = ⟨#[48]⟩ := by cases d <;> simp_all [orS, S]
          have z1 : ((sC.size : Int) == 0) = false := beq_eq_false_iff_ne.2 (by have := List.length_pos_iff.2 h1; omega)
          have z2 : ((sD.size : Int) == 0) = true := by rw [hDl, h2]; rfl
          have z3 :  (0 : Int) < (sC.size : Int) + (sD.size : Int) := by have := List.length_pos_iff.2 h1; omega
          have z5 : sD.size = 0 := by rw [hDl, h2]; rfl
          by_cases hlong : 64 < (orS c).length + (orS d).length
          · have hRv : R = ([], 3) := by rw [← HRR, if_pos (by simpa [longN] using hlong)]
            have hz : (64 : Int) < (sC.size : Int) + 1 := by omega
            subst hRv
            clear hneg HRR ho1 ho2 hw1 hw2 hlong h1 h2 HR HL hCl hDl hsC hsD
            go_wp2_with fail
            go_ret2
            exact ⟨rfl, HX.out⟩
          · have hRv : R = (txtN ⟨2, true, c, d⟩, 0) := by rw [← HRR, if_neg (by simpa [longN] using hlong)]
            have hz : ¬ (64 : Int) < (sC.size : Int) + 1 := by omega
            have hT : S (txtN ⟨2, true, c, d⟩) = ⟨#[45]⟩ ++ sC ++ ⟨#[46]⟩ ++ ⟨#[48]⟩ := by
              have e : S (txtN ⟨2, true, c, d⟩) = S [45] ++ S (orS c) ++ S [46] ++ S (orS d) := by
                rw [txtN]
                simp only [S_app]
                (try rfl)
              rw [e, hw1, hw2]
              (try rfl)
            have HT := Lib.hid hT
            clear hneg HRR ho1 ho2 hw1 hw2 hlong h1 h2 HR HL hCl hDl hsC hsD hT
            go_wp2_with fail
            go_ret2
            exact ⟨by rw [hRv, HT.out]; rfl, HX.out⟩
      · skip
        cases ng with
        | false =>
          have hneg : (false && !(c ++ d).isEmpty) = false := by cases c <;> cases d <;> simp_all
          have HRR := HR.out
          rw [hneg] at HRR
          have ho1 : (orS c).length = c.length := by cases c <;> simp_all [orS]
          have ho2 : (orS d).length = d.length := by cases d <;> simp_all [orS]
          have hw1 : S (orS c) = sC := by cases c <;> simp_all [orS, S]
          have hw2 : S (orS d) = sD := by cases d <;> simp_all [orS, S]
          have z1 : ((sC.size : Int) == 0) = false := beq_eq_false_iff_ne.2 (by have := List.length_pos_iff.2 h1; omega)
          have z2 : ((sD.size : Int) == 0) = false := beq_eq_false_iff_ne.2 (by have := List.length_pos_iff.2 h2; omega)
          have z3 : True := trivial
          by_cases hlong : 64 < (orS c).length + (orS d).length
          · have hRv : R = ([], 3) := by rw [← HRR, if_pos (by simpa [longN] using hlong)]
            have hz : (64 : Int) < (sC.size : Int) + (sD.size : Int) := by omega
            subst hRv
            clear hneg HRR ho1 ho2 hw1 hw2 hlong h1 h2 HR HL hCl hDl hsC hsD
            go_wp2_with fail
            go_ret2
            exact ⟨rfl, HX.out⟩
          · have hRv : R = (txtN ⟨2, false, c, d⟩, 0) := by rw [← HRR, if_neg (by simpa [longN] using hlong)]
            have hz : ¬ (64 : Int) < (sC.size : Int) + (sD.size : Int) := by omega
            have hT : S (txtN ⟨2, false, c, d⟩) = sC ++ ⟨#[46]⟩ ++ sD := by
              have e : S (txtN ⟨2, false, c, d⟩) = S (orS c) ++ S [46] ++ S (orS d) := by
                rw [txtN]
                simp only [S_app]
                (try rfl)
              rw [e, hw1, hw2]
              (try rfl)
            have HT := Lib.hid hT
            clear hneg HRR ho1 ho2 hw1 hw2 hlong h1 h2 HR HL hCl hDl hsC hsD hT
            go_wp2_with fail
            go_ret2
            exact ⟨by rw [hRv, HT.out]; rfl, HX.out⟩
        | true =>
          have hneg : (true && !(c ++ d).isEmpty) = true := by cases c <;> cases d <;> simp_all
          have HRR := HR.out
          rw [hneg] at HRR
          have ho1 : (orS c).length = c.length := by cases c <;> simp_all [orS]
          have ho2 : (orS d).length = d.length := by cases d <;> simp_all [orS]
          have hw1 : S (orS c) = sC := by cases c <;> simp_all [orS, S]
          have hw2 : S (orS d) = sD := by cases d <;> simp_all [orS, S]
          have z1 : ((sC.size : Int) == 0) = false := beq_eq_false_iff_ne.2 (by have := List.length_pos_iff.2 h1; omega)
          have z2 : ((sD.size : Int) == 0) = false := beq_eq_false_iff_ne.2 (by have := List.length_pos_iff.2 h2; omega)
          have z3 :  (0 : Int) < (sC.size : Int) + (sD.size : Int) := by have := List.length_pos_iff.2 h1; omega
          by_cases hlong : 64 < (orS c).length + (orS d).length
          · have hRv : R = ([], 3) := by rw [← HRR, if_pos (by simpa [longN] using hlong)]
            have hz : (64 : Int) < (sC.size : Int) + (sD.size : Int) := by omega
            subst hRv
            clear hneg HRR ho1 ho2 hw1 hw2 hlong h1 h2 HR HL hCl hDl hsC hsD
            go_wp2_with fail
            go_ret2
            exact ⟨rfl, HX.out⟩
          · have hRv : R = (txtN ⟨2, true, c, d⟩, 0) := by rw [← HRR, if_neg (by simpa [longN] using hlong)]
            have hz : ¬ (64 : Int) < (sC.size : Int) + (sD.size : Int) := by omega
            have hT : S (txtN ⟨2, true, c, d⟩) = ⟨#[45]⟩ ++ sC ++ ⟨#[46]⟩ ++ sD := by
              have e : S (txtN ⟨2, true, c, d⟩) = S [45] ++ S (orS c) ++ S [46] ++ S (orS d) := by
                rw [txtN]
                simp only [S_app]
                (try rfl)
              rw [e, hw1, hw2]
              (try rfl)
            have HT := Lib.hid hT
            clear hneg HRR ho1 ho2 hw1 hw2 hlong h1 h2 HR HL hCl hDl hsC hsD hT
            go_wp2_with fail
            go_ret2
            exact ⟨by rw [hRv, HT.out]; rfl, HX.out⟩
end Go.Proofs.YtgpgamohcafklaaGreatDoor.Nu
