/-
  The document's answer for layer 13 (runs): Get, Check walked.
-/
import Derived.Test.YtiadnmhginpgfaaR13a
namespace Go.Proofs.Ytiadnmhginpgfaa.Rn
open Go.RowKit

theorem getL_step (b : Int) (c : UInt8) (r out : List UInt8) (nb nn : Nat) (hc : c.toNat ≠ 128) (h : 128 < c.toNat ∧ nb = 1 ∧ nn = 257 - c.toNat ∨ c.toNat < 128 ∧ nb = c.toNat + 1 ∧ nn = c.toNat + 1) :
    getL b (c :: r) out = if r.length < nb then ([], 8) else if b - out.length < (nn : Int) then ([], 3) else getL b (r.drop nb) (out ++ rep (r.take nb) nn) := by
  rw [getL, if_neg hc]
  rcases h with ⟨h, rfl, rfl⟩ | ⟨h, rfl, rfl⟩
  · rw [if_pos h]
  · rw [if_neg (by omega)]
    by_cases hr : r.length < c.toNat + 1
    · rw [if_pos hr, if_pos hr]
    · rw [if_neg hr, if_neg hr]
      have e : rep (r.take (c.toNat + 1)) (c.toNat + 1) = r.take (c.toNat + 1) := by
        have hl : (r.take (c.toNat + 1)).length = c.toNat + 1 := by rw [List.length_take]; omega
        have := rep_first (r.take (c.toNat + 1))
        rw [hl] at this
        exact this
      rw [e]
theorem rep_succ (l : List UInt8) (z : Nat) : rep l (z + 1) = rep l z ++ [l.getD (z % l.length) 0] := by
  unfold rep; rw [List.range_succ, List.map_append]; rfl
set_option maxRecDepth 100000 in
set_option maxHeartbeats 8000000 in
theorem rget13_walk (s : ByteArray) (b : Int) (w : World) (hs : s.size ≤ 1048576) (hb : b ≤ 9223372036854775807) (hb0 : -9223372036854775808 ≤ b) :
    Calls Try.prog 15 #[.string s, .int .i64 b] w fun e w' => e = .returned (.tuple #[.string (Rn.S (getA b (B s)).1), .int .i64 ((getA b (B s)).2 : Nat)]) ∧ Ext [] w w' := by
  obtain ⟨i0, hi, hz0, hz1, hz2⟩ := info_parts infoByte
  by_cases hneg : b < 0
  · have hr : getA b (B s) = ([], 2) := if_pos hneg
    rw [hr]
    go_enter Try.func15, Try.ntmps15
    go_wp2_with fail
    go_ret2
    exact ⟨rfl, Ext.refl _ _⟩
  · have hr : getA b (B s) = getL b (B s) [] := if_neg hneg
    rw [hr]
    obtain ⟨R, hR⟩ : ∃ R, getL b (B s) [] = R := ⟨_, rfl⟩
    rw [hR]
    have HR := Lib.hid hR
    clear hr hR
    have S1 := (Sep.start w).new (Ext.refl _ _) (oSl 5 1 (.slice none 0 0) 0 []) (World.ownsRow_nil _ _ _ _) (by simp [oSl, Value.ownBlock])
    have HS := Lib.hid S1
    clear S1
    go_enter Try.func15, Try.ntmps15
    go_wp2_with fail
    go_loopg [6, 7, 8, 9, 10, 11] s.size (fun g ov av _ _ _ _ wr => ∃ (a : Nat) (out : List UInt8), g + a = s.size ∧ av = .int .i64 a ∧ getL b ((B s).drop a) out = R ∧ out.length ≤ 128 * a ∧ Sep w wr [oSl 5 1 ov out.length (out.map c8)])
    case atStart => exact ⟨0, [], by omega, rfl, HR.out, by simp, HS.out⟩
    case round =>
      clear HR HS
      obtain ⟨a, out, hg, rfl, hr, hol, S⟩ := hrel
      obtain ⟨ao, cap, rfl⟩ := oS_shape S (i := 0) rfl
      have hag : a ≤ s.size := by omega
      have HS := Lib.hid S
      by_cases hlt : a < s.size
      · have hd := drop_cons s a hlt
        have hdl := drop_len s (a + 1)
        obtain ⟨c, hc⟩ : ∃ c, (s[a]'hlt) = c := ⟨_, rfl⟩
        have hc8 := c.toNat_lt
        rw [hd, hc] at hr
        have HC := Lib.hid hc
        have HR := Lib.hid hr
        have HDL := Lib.hid hdl
        clear hd hr S hc hdl
        have i1 : (0 : Int) ≤ (a : Int) := by omega
        have i2 : (a : Int) < (s.size : Int) := by omega
        by_cases h1 : c.toNat = 128
        · have k1 : ((c.toNat : Int) == 128) = true := by simp [h1]
          have hct := run_text (show wr.ownsRow 0 5 1 (.slice ao out.length cap) out.length (out.map c8) from HS.out.get 0 rfl)
          have hRR := HR.out
          rw [getL, if_pos h1] at hRR
          have HRR := Lib.hid hRR
          have hc := HC.out
          clear hRR HR
          go_wp2_with fail
          go_ret2
          exact ⟨by rw [← HRR.out]; rfl, HS.out.ext⟩
        · have k1 : ((c.toNat : Int) == 128) = false := beq_eq_false_iff_ne.2 (by omega)
          have key : ∀ nb nn : Nat, (128 < c.toNat ∧ nb = 1 ∧ nn = 257 - c.toNat ∨ c.toNat < 128 ∧ nb = c.toNat + 1 ∧ nn = c.toNat + 1) → RowKit.Hid ((if ((B s).drop (a + 1)).length < nb then ([], 8) else if b - out.length < (nn : Int) then ([], 3) else getL b (((B s).drop (a + 1)).drop nb) (out ++ rep (((B s).drop (a + 1)).take nb) nn)) = R) := fun nb nn h => Lib.hid (by rw [← getL_step b c _ out nb nn h1 h]; exact HR.out)
          have hc := HC.out
          by_cases h2 : 128 < c.toNat
          · have k2 : (128 : Int) < (c.toNat : Int) := by omega
            obtain ⟨nn, hnn⟩ : ∃ nn : Nat, nn = 257 - c.toNat := ⟨_, rfl⟩
            have HK := key 1 nn (.inl ⟨h2, rfl, hnn⟩)
            have hn1 : nn ≤ 128 := by omega
            have e1 : (257 : Int) - (c.toNat : Int) = (nn : Int) := by omega
            have hnlow : 2 ≤ nn := by omega
            clear hnn key
            have hnn1 : 1 ≤ nn := by omega
            by_cases h3 : s.size < a + 1 + 1
            · have k3 : (s.size : Int) < (a : Int) + 1 + (1) := by omega
              have hRR := HK.out
              rw [if_pos (by rw [HDL.out]; omega)] at hRR
              have HRR := Lib.hid hRR
              clear hRR HK
              go_wp2_with fail
              go_ret2
              exact ⟨by rw [← HRR.out]; rfl, HS.out.ext⟩
            · have k3 : ¬ (s.size : Int) < (a : Int) + 1 + (1) := by omega
              by_cases h4 : b < (out.length : Int) + (nn : Int)
              · have hRR := HK.out
                rw [if_neg (by rw [HDL.out]; omega), if_pos (by omega)] at hRR
                have HRR := Lib.hid hRR
                clear hRR HK
                go_wp2_with fail
                go_ret2
                exact ⟨by rw [← HRR.out]; rfl, HS.out.ext⟩
              · have hRR := HK.out
                rw [if_neg (by rw [HDL.out]; omega), if_neg (by omega), List.drop_drop] at hRR
                obtain ⟨l0, hl0⟩ : ∃ l0, ((B s).drop (a + 1)).take 1 = l0 := ⟨_, rfl⟩
                have hlz : l0.length = 1 := by rw [← hl0, List.length_take, HDL.out]; omega
                rw [hl0] at hRR
                have hl0g : ∀ j (h : a + 1 + j < s.size), j < 1 → l0.getD j 0 = s[a + 1 + j]'h := fun j h hj => by
                  rw [← hl0, List.getD_eq_getElem?_getD, List.getElem?_take_of_lt hj, drop_get s (a + 1) j h]
                  rfl
                have HG := Lib.hid hl0g
                have HRR := Lib.hid hRR
                have HLZ := Lib.hid hlz
                clear hRR HK hl0 hlz hl0g
                go_wp2_with fail
                go_loopg [6, 11] nn (fun g ov iv wr2 => ∃ (i : Nat), g + i = nn ∧ iv = .int .i64 i ∧ Sep w wr2 [oSl 5 1 ov (out.length + i) ((out ++ rep l0 i).map c8)])
                case atStart => exact ⟨0, by omega, rfl, by simpa [rep] using HS.out⟩
                case round =>
                  clear HS
                  obtain ⟨i, hgi, rfl, S2⟩ := hrel
                  obtain ⟨ao2, cap2, rfl⟩ := oS_shape S2 (i := 0) rfl
                  have HS2 := Lib.hid S2
                  clear S2
                  by_cases hin : i < nn
                  · have hix : a + 1 < s.size := by omega
                    have hel : l0.getD (i % l0.length) 0 = s[a + 1]'hix := by
                      rw [HLZ.out]
                      have := HG.out (i % 1) (by rw [Nat.mod_one]; omega) (by rw [Nat.mod_one]; omega)
                      rw [this]
                      congr 1
                      rw [Nat.mod_one]
                    have j1 : (0 : Int) ≤ ((a : Int) + 1) := by omega
                    have j2 : ((a : Int) + 1) < (s.size : Int) := by omega
                    have j3 : (((a : Int) + 1)).toNat = a + 1 := by omega
                    skip
                    obtain ⟨x, hx⟩ : ∃ x, s[a + 1]'hix = x := ⟨_, rfl⟩
                    have hx8 := x.toNat_lt
                    have hnx : (out ++ rep l0 i).map c8 ++ [.int .u8 ((x.toNat : Nat) : Int)] = (out ++ rep l0 (i + 1)).map c8 := by
                      rw [rep_succ, hel, hx, ← List.append_assoc, List.map_append (l₂ := [x])]
                      rfl
                    have HNX := Lib.hid hnx
                    have hown : wr.ownsRow 0 5 1 (.slice ao2 (out.length + i) cap2) (out.length + i) ((out ++ rep l0 i).map c8) := HS2.out.get 0 rfl
                    clear hel hnx
                    go_wp2_with (at_builtin; refine wpList_append_lies _ rfl _ _ 29 rfl 0 5 i0 _ 1 1 Try.underlying29 hi hz0 hz1 hz2 rfl (by decide) (.slice ao2 (out.length + i) cap2) (out.length + i) _ rfl (hown.alloc _) ⟨wr.heap.size, 0, none⟩ 1 1 [.int .u8 ((x.toNat : Nat) : Int)] rfl rfl (World.news_of_block (heap_alloc_at (w := wr) _)) (by simp [Value.oneCell']) (by decide) (by unfold maxLen; omega) (by omega) (by omega) (wr.heap.size + 1) (by simp) ?_; intro g1 cap1 w3 hown1 hgrow1 hat1 hlt1; have P1 := push_local (cap := cap1) (n := out.length + i + 1) hgrow1 hat1; have HP := Lib.hid P1; have HO := Lib.hid hown1; clear P1 hown1 hgrow1 hat1 hlt1)
                    go_wp2_with fail
                    go_roundg (nn - (i + 1))
                    case measure => omega
                    case rel =>
                      have ho := HO.out
                      rw [HNX.out] at ho
                      exact ⟨i + 1, by omega, by go_num, HS2.out.upd 0 (oSl 5 1 _ (out.length + (i + 1)) _) rfl HP.out.1 HP.out.2 ho⟩
                  · obtain rfl : nn = i := by omega
                    go_wp2_with fail
                    go_roundg (s.size - (a + 1 + 1))
                    case measure => omega
                    case rel =>
                      have hl9 : (out ++ rep l0 nn).length = out.length + nn := by rw [List.length_append, rep_len]
                      refine ⟨a + 1 + 1, out ++ rep l0 nn, by omega, by go_num, HRR.out, by rw [hl9]; omega, ?_⟩
                      rw [hl9]
                      exact HS2.out
          · have k2 : ¬ (128 : Int) < (c.toNat : Int) := by omega
            obtain ⟨nn, hnn⟩ : ∃ nn : Nat, nn = c.toNat + 1 := ⟨_, rfl⟩
            have HK := key nn nn (.inr ⟨by omega, hnn, hnn⟩)
            have hn1 : nn ≤ 128 := by omega
            have e1 : (c.toNat : Int) + 1 = (nn : Int) := by omega
            have hnlow : 1 ≤ nn := by omega
            clear hnn key
            have hnn1 : 1 ≤ nn := by omega
            by_cases h3 : s.size < a + 1 + nn
            · have k3 : (s.size : Int) < (a : Int) + 1 + ((nn : Int)) := by omega
              have hRR := HK.out
              rw [if_pos (by rw [HDL.out]; omega)] at hRR
              have HRR := Lib.hid hRR
              clear hRR HK
              go_wp2_with fail
              go_ret2
              exact ⟨by rw [← HRR.out]; rfl, HS.out.ext⟩
            · have k3 : ¬ (s.size : Int) < (a : Int) + 1 + ((nn : Int)) := by omega
              by_cases h4 : b < (out.length : Int) + (nn : Int)
              · have hRR := HK.out
                rw [if_neg (by rw [HDL.out]; omega), if_pos (by omega)] at hRR
                have HRR := Lib.hid hRR
                clear hRR HK
                go_wp2_with fail
                go_ret2
                exact ⟨by rw [← HRR.out]; rfl, HS.out.ext⟩
              · have hRR := HK.out
                rw [if_neg (by rw [HDL.out]; omega), if_neg (by omega), List.drop_drop] at hRR
                obtain ⟨l0, hl0⟩ : ∃ l0, ((B s).drop (a + 1)).take nn = l0 := ⟨_, rfl⟩
                have hlz : l0.length = nn := by rw [← hl0, List.length_take, HDL.out]; omega
                rw [hl0] at hRR
                have hl0g : ∀ j (h : a + 1 + j < s.size), j < nn → l0.getD j 0 = s[a + 1 + j]'h := fun j h hj => by
                  rw [← hl0, List.getD_eq_getElem?_getD, List.getElem?_take_of_lt hj, drop_get s (a + 1) j h]
                  rfl
                have HG := Lib.hid hl0g
                have HRR := Lib.hid hRR
                have HLZ := Lib.hid hlz
                clear hRR HK hl0 hlz hl0g
                go_wp2_with fail
                go_loopg [6, 11] nn (fun g ov iv wr2 => ∃ (i : Nat), g + i = nn ∧ iv = .int .i64 i ∧ Sep w wr2 [oSl 5 1 ov (out.length + i) ((out ++ rep l0 i).map c8)])
                case atStart => exact ⟨0, by omega, rfl, by simpa [rep] using HS.out⟩
                case round =>
                  clear HS
                  obtain ⟨i, hgi, rfl, S2⟩ := hrel
                  obtain ⟨ao2, cap2, rfl⟩ := oS_shape S2 (i := 0) rfl
                  have HS2 := Lib.hid S2
                  clear S2
                  by_cases hin : i < nn
                  · have hix : a + 1 + i < s.size := by omega
                    have hel : l0.getD (i % l0.length) 0 = s[a + 1 + i]'hix := by
                      rw [HLZ.out]
                      have := HG.out (i % nn) (by rw [Nat.mod_eq_of_lt hin]; omega) (by rw [Nat.mod_eq_of_lt hin]; omega)
                      rw [this]
                      congr 1
                      rw [Nat.mod_eq_of_lt hin]
                    have j1 : (0 : Int) ≤ ((a : Int) + 1 + (i : Int)) := by omega
                    have j2 : ((a : Int) + 1 + (i : Int)) < (s.size : Int) := by omega
                    have j3 : (((a : Int) + 1 + (i : Int))).toNat = a + 1 + i := by omega
                    have e8 : (i : Int) % (nn : Int) = (i : Int) := by have := Nat.mod_eq_of_lt hin; omega
                    have e9 : Int.tmod (i : Int) (nn : Int) = (i : Int) := by rw [Int.tmod_eq_emod_of_nonneg (by omega)]; exact e8
                    obtain ⟨x, hx⟩ : ∃ x, s[a + 1 + i]'hix = x := ⟨_, rfl⟩
                    have hx8 := x.toNat_lt
                    have hnx : (out ++ rep l0 i).map c8 ++ [.int .u8 ((x.toNat : Nat) : Int)] = (out ++ rep l0 (i + 1)).map c8 := by
                      rw [rep_succ, hel, hx, ← List.append_assoc, List.map_append (l₂ := [x])]
                      rfl
                    have HNX := Lib.hid hnx
                    have hown : wr.ownsRow 0 5 1 (.slice ao2 (out.length + i) cap2) (out.length + i) ((out ++ rep l0 i).map c8) := HS2.out.get 0 rfl
                    clear hel hnx
                    go_wp2_with (at_builtin; refine wpList_append_lies _ rfl _ _ 29 rfl 0 5 i0 _ 1 1 Try.underlying29 hi hz0 hz1 hz2 rfl (by decide) (.slice ao2 (out.length + i) cap2) (out.length + i) _ rfl (hown.alloc _) ⟨wr.heap.size, 0, none⟩ 1 1 [.int .u8 ((x.toNat : Nat) : Int)] rfl rfl (World.news_of_block (heap_alloc_at (w := wr) _)) (by simp [Value.oneCell']) (by decide) (by unfold maxLen; omega) (by omega) (by omega) (wr.heap.size + 1) (by simp) ?_; intro g1 cap1 w3 hown1 hgrow1 hat1 hlt1; have P1 := push_local (cap := cap1) (n := out.length + i + 1) hgrow1 hat1; have HP := Lib.hid P1; have HO := Lib.hid hown1; clear P1 hown1 hgrow1 hat1 hlt1)
                    go_wp2_with fail
                    go_roundg (nn - (i + 1))
                    case measure => omega
                    case rel =>
                      have ho := HO.out
                      rw [HNX.out] at ho
                      exact ⟨i + 1, by omega, by go_num, HS2.out.upd 0 (oSl 5 1 _ (out.length + (i + 1)) _) rfl HP.out.1 HP.out.2 ho⟩
                  · obtain rfl : nn = i := by omega
                    go_wp2_with fail
                    go_roundg (s.size - (a + 1 + nn))
                    case measure => omega
                    case rel =>
                      have hl9 : (out ++ rep l0 nn).length = out.length + nn := by rw [List.length_append, rep_len]
                      refine ⟨a + 1 + nn, out ++ rep l0 nn, by omega, by go_num, HRR.out, by rw [hl9]; omega, ?_⟩
                      rw [hl9]
                      exact HS2.out
      · have hr' := hr
        rw [List.drop_eq_nil_of_le (by rw [B_len]; omega), getL] at hr'
        have HRR := Lib.hid hr'
        clear hr hr' S
        go_wp2_with fail
        go_ret2
        exact ⟨by rw [← HRR.out]; rfl, HS.out.ext⟩
end Go.Proofs.Ytiadnmhginpgfaa.Rn
