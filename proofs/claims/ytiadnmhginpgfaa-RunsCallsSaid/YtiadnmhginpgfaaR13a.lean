/-
  The document's answer for layer 13 (runs): walked.
-/
import Derived.Test.YtiadnmhginpgfaaRnL
import Derived.Test.YtiadnmhginpgfaaRunsPlain
namespace Go.Proofs.Ytiadnmhginpgfaa.Rn
open Go.RowKit

theorem drop_get (s : ByteArray) (a i : Nat) (h : a + i < s.size) : ((B s).drop a)[i]? = some (s[a + i]'h) := by
  rw [List.getElem?_drop, B_get s (a + i) h]
theorem drop_len (s : ByteArray) (a : Nat) : ((B s).drop a).length = s.size - a := by rw [List.length_drop, B_len]
theorem drop_cons (s : ByteArray) (a : Nat) (h : a < s.size) : (B s).drop a = (s[a]'h) :: (B s).drop (a + 1) := by
  rw [List.drop_eq_getElem_cons (by rw [B_len]; exact h)]
  rfl
set_option maxRecDepth 100000 in
set_option maxHeartbeats 8000000 in
theorem rsame_walk (s : ByteArray) (a : Nat) (w : World) (hs : s.size ≤ 1048576) (ha : a < s.size) :
    Calls Try.prog 20 #[.string s, .int .i64 a] w fun e w' => e = .returned (.int .i64 (same ((B s).drop a) : Nat)) ∧ Ext [] w w' := by
  obtain ⟨l, hl⟩ : ∃ l, (B s).drop a = l := ⟨_, rfl⟩
  have hll : l.length = s.size - a := by rw [← hl, drop_len]
  have hg0 : l[0]? = some (s[a]'ha) := by rw [← hl]; exact drop_get s a 0 ha
  have hgn : ∀ n, (h : a + n < s.size) → l[n]? = some (s[a + n]'h) := fun n h => by rw [← hl]; exact drop_get s a n h
  rw [hl]
  have HG0 := Lib.hid hg0
  have HGN := Lib.hid hgn
  have HLL := Lib.hid hll
  clear hl hg0 hgn hll
  go_enter Try.func20, Try.ntmps20
  go_wp2_with fail
  go_loopg [5] 128 (fun g i wr => ∃ n : Nat, g + n = 129 ∧ i = .int .i64 n ∧ 1 ≤ n ∧ sameF l n = same l ∧ Ext [] w wr)
  case atStart => exact ⟨1, by omega, rfl, by omega, rfl, Ext.refl _ _⟩
  case round =>
    obtain ⟨n, hg, rfl, hn1, hr, hx⟩ := hrel
    have HR := Lib.hid hr
    have HX := Lib.hid hx
    clear hr hx
    have hn : n ≤ 129 := by omega
    by_cases h1 : n < 128
    · have m1 : decide ((n : Int) < 128) = true := decide_eq_true (by omega)
      by_cases h2 : a + n < s.size
      · have m2 : decide ((a : Int) + (n : Int) < (s.size : Int)) = true := decide_eq_true (by omega)
        have i0 : (0 : Int) ≤ (a : Int) + (n : Int) := by omega
        have i1 : (a : Int) + (n : Int) < (s.size : Int) := by omega
        have i2 : (0 : Int) ≤ (a : Int) := by omega
        have i3 : (a : Int) < (s.size : Int) := by omega
        have i4 : ((a : Int) + (n : Int)).toNat = a + n := by omega
        have b1 := HGN.out n h2
        have b2 := HG0.out
        have hnl : n < l.length := by rw [HLL.out]; omega
        by_cases hxy : s[a + n]'h2 = s[a]'ha
        · have q1 : (((s[a + n]'h2).toNat : Int) == ((s[a]'ha).toNat : Int)) = true := by rw [hxy]; simp
          have hm := sameF_more l n ⟨h1, hnl, by rw [b1, b2, hxy]⟩
          rw [HR.out] at hm
          have HM := Lib.hid hm
          clear hm b1 b2 hxy hnl
          go_wp2_with fail
          go_quiet (fail)
          go_wp2_with fail
          all_goals go_roundg (128 - n)
          case measure => omega
          all_goals exact ⟨n + 1, by omega, by go_num, by omega, HM.out.symm, HX.out.drewN _⟩
        · have q1 : (((s[a + n]'h2).toNat : Int) == ((s[a]'ha).toNat : Int)) = false := by
            simp only [beq_eq_false_iff_ne, ne_eq]
            intro h
            exact hxy (UInt8.toNat_inj.1 (by omega))
          have hm := sameF_stop l n (fun h => by rw [b1, b2] at h; exact hxy (Option.some.inj h.2.2))
          rw [HR.out] at hm
          have HM := Lib.hid hm
          clear hm b1 b2 hxy hnl
          go_wp2_with fail
          go_quiet (fail)
          go_wp2_with fail
          all_goals go_ret
          all_goals exact ⟨by rw [HM.out]; rfl, HX.out.drewN _⟩
      · have m2 : decide ((a : Int) + (n : Int) < (s.size : Int)) = false := decide_eq_false (by omega)
        have hnl : ¬ n < l.length := by rw [HLL.out]; omega
        go_wp2_with fail
        go_quiet (fail)
        go_wp2_with fail
        all_goals go_ret
        all_goals exact ⟨by rw [← HR.out, sameF_stop _ _ (fun h => hnl h.2.1)]; rfl, HX.out.drewN _⟩
    · have m1 : decide ((n : Int) < 128) = false := decide_eq_false (by omega)
      go_wp2_with fail
      go_quiet (fail)
      go_wp2_with fail
      all_goals go_ret
      all_goals exact ⟨by rw [← HR.out, sameF_stop _ _ (fun h => h1 h.1)]; rfl, HX.out.drewN _⟩

theorem oS_shape {w0 w : World} {L : List Ob} {i : Nat} {v : Value} {n : Nat} {xs : List Value} (S : Sep w0 w L) (hL : L[i]? = some (oSl 5 1 v n xs)) : ∃ ao cap, v = .slice ao n cap :=
  row_shape (show w.ownsRow 0 5 1 v n xs from S.get i hL)
set_option maxRecDepth 100000 in
set_option maxHeartbeats 8000000 in
theorem rput13_walk (s : ByteArray) (w : World) (hs : s.size ≤ 1048576) :
    Calls Try.prog 16 #[.string s] w fun e w' => e = .returned (.string (S (putL (B s)))) ∧ Ext [] w w' := by
  obtain ⟨i0, hi, hz0, hz1, hz2⟩ := info_parts infoByte
  obtain ⟨R, hR⟩ : ∃ R, (pieces (B s)).flatMap enc = R := ⟨_, rfl⟩
  have hput : putL (B s) = R ++ [128] := by unfold putL; rw [hR]
  rw [hput]
  have HR := Lib.hid hR
  have S1 := (Sep.start w).new (Ext.refl _ _) (oSl 5 1 (.slice none 0 0) 0 []) (World.ownsRow_nil _ _ _ _) (by simp [oSl, Value.ownBlock])
  have HS := Lib.hid S1
  clear hR hput S1
  go_enter Try.func16, Try.ntmps16
  go_wp2_with fail
  go_loopg [3, 4, 5] s.size (fun g ov av nv wr => ∃ (a : Nat) (out : List UInt8), g + a = s.size ∧ av = .int .i64 a ∧ out ++ (pieces ((B s).drop a)).flatMap enc = R ∧ out.length ≤ 2 * a ∧ Sep w wr [oSl 5 1 ov out.length (out.map c8)])
  case atStart => exact ⟨0, [], by omega, rfl, HR.out, by simp, HS.out⟩
  case round =>
    clear HS HR
    obtain ⟨a, out, hg, rfl, hr, hol, S⟩ := hrel
    have hag : a ≤ s.size := by omega
    obtain ⟨ao, cap, rfl⟩ := oS_shape S (i := 0) rfl
    have HR := Lib.hid hr
    have HS := Lib.hid S
    clear hr S
    by_cases hlt : a < s.size
    · have hlen := drop_len s a
      obtain ⟨l, hl⟩ : ∃ l, (B s).drop a = l := ⟨_, rfl⟩
      rw [hl] at hlen HR
      have hcut := cut_le l (by omega)
      have hpc := pieces_cons l (by omega)
      have hhd : l.headD 0 = s[a]'hlt := by rw [← hl, drop_cons s a hlt]; rfl
      have hdd : ∀ k, (B s).drop (a + k) = l.drop k := fun k => by rw [← hl, List.drop_drop]
      have HR : RowKit.Hid (out ++ (enc (l.take (cut l), many l) ++ (pieces ((B s).drop (a + cut l))).flatMap enc) = R) := Lib.hid (by rw [hdd, ← List.flatMap_cons, ← hpc]; exact HR.out)
      have hsame : ∀ w, Calls Try.prog 20 #[.string s, .int .i64 a] w fun e w' => e = .returned (.int .i64 (same l : Nat)) ∧ Ext [] w w' := fun w => by rw [← hl]; exact rsame_walk s a w hs hlt
      have hpos := same_pos l
      have hsm := (sameF_le l 127 1 rfl (by omega)).2
      have hsm : same l ≤ 128 ∧ same l ≤ l.length := hsm
      have hplain : ∀ n w, a + n < s.size → Calls Try.prog 20 #[.string s, .int .i64 ((a : Int) + (n : Int))] w fun e w' => e = .returned (.int .i64 (same (l.drop n) : Nat)) ∧ Ext [] w w' := fun n w h => by
        rw [← hdd]; exact rsame_walk s (a + n) w hs h
      have HSAME := Lib.hid hsame
      have HPL := Lib.hid hplain
      have HHD := Lib.hid hhd
      have HC : cut l = if 1 < same l then same l else plainF l 1 := rfl
      have HC := Lib.hid HC
      have HM : many l = decide (1 < same l) := rfl
      have HM := Lib.hid HM
      have HLEN := Lib.hid hlen
      have HLL := Lib.hid hl
      clear hsame hplain hhd hpc hdd hlen hl
      generalize hn0 : same l = n0 at hpos hsm HC HM HSAME
      have HN := Lib.hid hn0
      clear hn0
      go_wp2_with fail
      refine (HSAME.out _).mono ?_
      rintro e w2 ⟨rfl, hx2⟩
      have HS2 := Lib.hid (HS.out.quiet hx2)
      clear hx2 HS
      have hown : w2.ownsRow 0 5 1 (.slice ao out.length cap) out.length (out.map c8) := HS2.out.get 0 rfl
      by_cases h1 : 1 < n0
      · have q1 : (2 : Int) ≤ (n0 : Int) := by omega
        have hcn : cut l = n0 := by rw [HC.out, if_pos h1]
        have hmn : many l = true := by rw [HM.out, decide_eq_true h1]
        rw [hcn, hmn] at HR
        have HCN := Lib.hid hcn
        clear hcn hmn
        have i1 : (0 : Int) ≤ (a : Int) := by omega
        have i2 : (a : Int) < (s.size : Int) := by omega
        have hln := HLEN.out
        have hsz : a + n0 ≤ s.size := by omega
        have hnl : n0 ≤ l.length := by omega
        have HNL := Lib.hid hnl
        clear hln hcut hsm
        have hn128 : n0 ≤ 128 := by have := HCN.out; have := cut_le l (by omega); omega
        clear hnl
        have henc : (enc (l.take n0, true)).map c8 = [.int .u8 (257 - (n0 : Int)), .int .u8 (((s[a]'hlt).toNat : Nat) : Int)] := by
          have hnl := HNL.out
          unfold enc c8
          have e1 : (l.take n0).length = n0 := by rw [List.length_take]; omega
          have e2 : (((UInt8.ofNat (257 - n0)).toNat : Nat) : Int) = 257 - (n0 : Int) := by rw [UInt8.toNat_ofNat']; omega
          have e3 : (l.take n0).headD 0 = s[a]'hlt := by rw [← HHD.out]; cases l with
            | nil => simp
            | cons x r => obtain ⟨m, rfl⟩ : ∃ m, n0 = m + 1 := ⟨n0 - 1, by omega⟩; rfl
          simp only [if_true, List.map_cons, List.map_nil, e1, e2, e3]
        have HE := Lib.hid henc
        clear henc
        go_wp2_with (at_builtin; refine wpList_append_lies _ rfl _ _ 29 rfl 0 5 i0 _ 1 1 Try.underlying29 hi hz0 hz1 hz2 rfl (by decide) (.slice ao out.length cap) out.length _ rfl (hown.alloc _) ⟨w2.heap.size, 0, none⟩ 2 2 [.int .u8 (257 - (n0 : Int)), .int .u8 (((s[a]'hlt).toNat : Nat) : Int)] rfl rfl (World.news_of_block (heap_alloc_at (w := w2) _)) (by simp [Value.oneCell']) (by decide) (by unfold maxLen; omega) (by omega) (by omega) (w2.heap.size + 1) (by simp) ?_; intro g1 cap1 w3 hown1 hgrow1 hat1 hlt1; have P1 := push_local (cap := cap1) (n := out.length + 2) hgrow1 hat1; have HP := Lib.hid P1; have HO := Lib.hid hown1; clear P1 hown1 hgrow1 hat1 hlt1)
        go_wp2_with fail
        go_roundg (s.size - (a + n0))
        case measure => omega
        case rel =>
          have ho := HO.out
          rw [← HE.out, ← List.map_append] at ho
          have hl9 : (out ++ enc (l.take n0, true)).length = out.length + 2 := by rw [List.length_append]; rfl
          refine ⟨a + n0, out ++ enc (l.take n0, true), by omega, by go_num, by rw [List.append_assoc]; exact HR.out, by rw [hl9]; omega, ?_⟩
          rw [hl9]
          exact HS2.out.upd 0 (oSl 5 1 _ _ _) rfl HP.out.1 HP.out.2 ho
      · have q1 : ¬ ((2 : Int) ≤ (n0 : Int)) := by omega
        have e1 : n0 = 1 := by omega
        subst e1
        have hmn : many l = false := by rw [HM.out, decide_eq_false h1]
        rw [hmn] at HR
        have hcp : cut l = plainF l 1 := by rw [HC.out, if_neg h1]
        have HCP := Lib.hid hcp
        clear hcp hmn hown HSAME HC HM h1 hsm hpos hcut
        go_wp2_with fail
        go_loopg [5] 128 (fun g i wr2 => ∃ n : Nat, g + n = 129 ∧ i = .int .i64 n ∧ 1 ≤ n ∧ a + n ≤ s.size ∧ plainF l n = plainF l 1 ∧ Sep w wr2 [oSl 5 1 (.slice ao out.length cap) out.length (out.map c8)])
        case atStart => exact ⟨1, by omega, rfl, by omega, by omega, rfl, HS2.out⟩
        case round =>
          clear HS2
          obtain ⟨n, hgn, rfl, hn1, hn2, hpl, S2⟩ := hrel
          have HPLN := Lib.hid hpl
          have HS2 := Lib.hid S2
          clear hpl S2
          have hll := HLEN.out
          by_cases h : n < 128 ∧ a + n < s.size
          · obtain ⟨ha, hb⟩ := h
            have m1 : decide ((n : Int) < 128) = true := decide_eq_true (by omega)
            have m2 : decide ((a : Int) + (n : Int) < (s.size : Int)) = true := decide_eq_true (by omega)
            have hnl : n < l.length := by omega
            clear hll
            go_wp2_with fail
            refine (HPL.out n _ hb).mono ?_
            rintro e w5 ⟨rfl, hx5⟩
            have HS5 := Lib.hid (HS2.out.quiet hx5)
            clear hx5 HS2
            generalize hn5 : same (l.drop n) = n5
            have HN5 := Lib.hid hn5
            clear hn5
            by_cases h5 : n5 < 2
            · have q5 : (n5 : Int) < 2 := by omega
              have hpm := plainF_more l n ⟨ha, hnl, by rw [HN5.out]; exact h5⟩
              rw [HPLN.out] at hpm
              have HPM := Lib.hid hpm
              clear hpm
              go_wp2_with fail
              go_roundg (128 - n)
              case measure => omega
              case rel => exact ⟨n + 1, by omega, by go_num, by omega, by omega, HPM.out.symm, HS5.out⟩
            · have q5 : ¬ ((n5 : Int) < 2) := by omega
              have hcn : cut l = n := by rw [HCP.out, ← HPLN.out, plainF_stop _ _ (fun h => h5 (by rw [← HN5.out]; exact h.2.2))]
              have hn129 : n ≤ 128 := by omega
              clear hnl
              have hcp : cut l = n := hcn
              rw [hcp] at HR
              have HCN := Lib.hid hcn
              clear hcn hcp
              have hown : w5.ownsRow 0 5 1 (.slice ao out.length cap) out.length (out.map c8) := HS5.out.get 0 rfl
              obtain ⟨x, hx⟩ : ∃ x, s.extract a (a + n) = x := ⟨_, rfl⟩
              have hBx : B x = l.take n := by rw [← hx, part_slice, HLL.out]
              have hxz : x.size = n := by rw [← hx]; simp; omega
              have henc : (enc (l.take n, false)).map c8 = .int .u8 ((n : Int) - 1) :: byteCells x := by
                have h := enc_plain (l.take n) (by rw [← hBx, B_len]; omega) (by rw [← hBx, B_len]; omega)
                rw [← hBx, S_B, B_len, hxz] at h
                rw [← hBx]; exact h
              have HE := Lib.hid henc
              have HXZ := Lib.hid hxz
              have hxz1 : 1 ≤ x.size := by omega
              have hxz2 : x.size ≤ 128 := by omega
              have i5 : (0 : Int) ≤ (a : Int) := by omega
              have i6 : (a : Int) ≤ (a : Int) + (n : Int) := by omega
              have i7 : (a : Int) + (n : Int) ≤ (s.size : Int) := by omega
              clear hBx hxz henc
              go_wp2_with (first
                | (at_builtin; refine wpList_append_lies _ rfl _ _ 29 rfl 0 5 i0 _ 1 1 Try.underlying29 hi hz0 hz1 hz2 rfl (by decide) (.slice ao out.length cap) out.length _ rfl (hown.alloc _) ⟨w5.heap.size, 0, none⟩ 1 1 [.int .u8 ((n : Int) - 1)] rfl rfl (World.news_of_block (heap_alloc_at (w := w5) _)) (by simp [Value.oneCell']) (by decide) (by unfold maxLen; omega) (by omega) (by omega) (w5.heap.size + 1) (by simp) ?_; intro g1 cap1 w6 hown1 hgrow1 hat1 hlt1)
                | (at_builtin; refine wpList_append_src _ rfl _ _ 29 9 rfl 0 5 i0 _ 1 1 Try.underlying29 hi hz0 hz1 hz2 rfl (by decide) (.slice (some ⟨g1, 0, none⟩) (out.length + 1) cap1) (out.length + 1) _ rfl hown1 _ x.size (byteCells x) rfl (by rw [hx]; exact Src.ofString _ Try.underlying9 _) (by omega) (by unfold maxLen; omega) (by omega) (by omega) ?_; intro g2 cap2 w7 hown2 hgrow2 hat2 hlt2; have P1 := push_local (cap := cap1) (n := out.length + 1) hgrow1 hat1; have P2 := push_plain (cap := cap2) (n := out.length + 1 + x.size) hgrow2 hat2; have HP1 := Lib.hid P1; have HP2 := Lib.hid P2; have HO := Lib.hid hown2; clear P1 P2 hgrow1 hgrow2 hat1 hat2 hlt1 hlt2 hown hown1 hown2))
              go_wp2_with fail
              go_roundg (s.size - (a + n))
              case measure => omega
              case rel =>
                have ho := HO.out
                rw [List.append_assoc, List.singleton_append, ← HE.out, ← List.map_append] at ho
                have hl9 : (out ++ enc (l.take n, false)).length = out.length + 1 + x.size := by
                  have h := congrArg List.length HE.out
                  simp only [List.length_map, List.length_cons, byteCells_length] at h
                  rw [List.length_append, h]; omega
                refine ⟨a + n, out ++ enc (l.take n, false), by omega, by go_num, by rw [List.append_assoc]; exact HR.out, by rw [hl9]; have := HXZ.out; omega, ?_⟩
                rw [hl9]
                exact HS5.out.upd 0 (oSl 5 1 _ _ _) rfl (ext_fr HP1.out.1 HP2.out.1 HP1.out.2) (Fr.trans HP1.out.2 HP2.out.2 HP1.out.1.size) ho
          · have hcn : cut l = n := by rw [HCP.out, ← HPLN.out, plainF_stop _ _ (fun h' => h ⟨h'.1, by have := h'.2.1; omega⟩)]
            have hn129 : n ≤ 128 := by have := cut_le l (by omega); omega
            clear hll
            by_cases ha : n < 128
            · have hb : ¬ a + n < s.size := fun q => h ⟨ha, q⟩
              have m1 : decide ((n : Int) < 128) = true := decide_eq_true (by omega)
              have m2 : decide ((a : Int) + (n : Int) < (s.size : Int)) = false := decide_eq_false (by omega)
              have hcp : cut l = n := hcn
              rw [hcp] at HR
              have HCN := Lib.hid hcn
              clear hcn hcp
              have hown : wr.ownsRow 0 5 1 (.slice ao out.length cap) out.length (out.map c8) := HS2.out.get 0 rfl
              obtain ⟨x, hx⟩ : ∃ x, s.extract a (a + n) = x := ⟨_, rfl⟩
              have hBx : B x = l.take n := by rw [← hx, part_slice, HLL.out]
              have hxz : x.size = n := by rw [← hx]; simp; omega
              have henc : (enc (l.take n, false)).map c8 = .int .u8 ((n : Int) - 1) :: byteCells x := by
                have h := enc_plain (l.take n) (by rw [← hBx, B_len]; omega) (by rw [← hBx, B_len]; omega)
                rw [← hBx, S_B, B_len, hxz] at h
                rw [← hBx]; exact h
              have HE := Lib.hid henc
              have HXZ := Lib.hid hxz
              have hxz1 : 1 ≤ x.size := by omega
              have hxz2 : x.size ≤ 128 := by omega
              have i5 : (0 : Int) ≤ (a : Int) := by omega
              have i6 : (a : Int) ≤ (a : Int) + (n : Int) := by omega
              have i7 : (a : Int) + (n : Int) ≤ (s.size : Int) := by omega
              clear hBx hxz henc
              go_wp2_with (first
                | (at_builtin; refine wpList_append_lies _ rfl _ _ 29 rfl 0 5 i0 _ 1 1 Try.underlying29 hi hz0 hz1 hz2 rfl (by decide) (.slice ao out.length cap) out.length _ rfl (hown.alloc _) ⟨wr.heap.size, 0, none⟩ 1 1 [.int .u8 ((n : Int) - 1)] rfl rfl (World.news_of_block (heap_alloc_at (w := wr) _)) (by simp [Value.oneCell']) (by decide) (by unfold maxLen; omega) (by omega) (by omega) (wr.heap.size + 1) (by simp) ?_; intro g1 cap1 w6 hown1 hgrow1 hat1 hlt1)
                | (at_builtin; refine wpList_append_src _ rfl _ _ 29 9 rfl 0 5 i0 _ 1 1 Try.underlying29 hi hz0 hz1 hz2 rfl (by decide) (.slice (some ⟨g1, 0, none⟩) (out.length + 1) cap1) (out.length + 1) _ rfl hown1 _ x.size (byteCells x) rfl (by rw [hx]; exact Src.ofString _ Try.underlying9 _) (by omega) (by unfold maxLen; omega) (by omega) (by omega) ?_; intro g2 cap2 w7 hown2 hgrow2 hat2 hlt2; have P1 := push_local (cap := cap1) (n := out.length + 1) hgrow1 hat1; have P2 := push_plain (cap := cap2) (n := out.length + 1 + x.size) hgrow2 hat2; have HP1 := Lib.hid P1; have HP2 := Lib.hid P2; have HO := Lib.hid hown2; clear P1 P2 hgrow1 hgrow2 hat1 hat2 hlt1 hlt2 hown hown1 hown2))
              go_wp2_with fail
              go_roundg (s.size - (a + n))
              case measure => omega
              case rel =>
                have ho := HO.out
                rw [List.append_assoc, List.singleton_append, ← HE.out, ← List.map_append] at ho
                have hl9 : (out ++ enc (l.take n, false)).length = out.length + 1 + x.size := by
                  have h := congrArg List.length HE.out
                  simp only [List.length_map, List.length_cons, byteCells_length] at h
                  rw [List.length_append, h]; omega
                refine ⟨a + n, out ++ enc (l.take n, false), by omega, by go_num, by rw [List.append_assoc]; exact HR.out, by rw [hl9]; have := HXZ.out; omega, ?_⟩
                rw [hl9]
                exact HS2.out.upd 0 (oSl 5 1 _ _ _) rfl (ext_fr HP1.out.1 HP2.out.1 HP1.out.2) (Fr.trans HP1.out.2 HP2.out.2 HP1.out.1.size) ho
            · have m1 : decide ((n : Int) < 128) = false := decide_eq_false (by omega)
              have hcp : cut l = n := hcn
              rw [hcp] at HR
              have HCN := Lib.hid hcn
              clear hcn hcp
              have hown : wr.ownsRow 0 5 1 (.slice ao out.length cap) out.length (out.map c8) := HS2.out.get 0 rfl
              obtain ⟨x, hx⟩ : ∃ x, s.extract a (a + n) = x := ⟨_, rfl⟩
              have hBx : B x = l.take n := by rw [← hx, part_slice, HLL.out]
              have hxz : x.size = n := by rw [← hx]; simp; omega
              have henc : (enc (l.take n, false)).map c8 = .int .u8 ((n : Int) - 1) :: byteCells x := by
                have h := enc_plain (l.take n) (by rw [← hBx, B_len]; omega) (by rw [← hBx, B_len]; omega)
                rw [← hBx, S_B, B_len, hxz] at h
                rw [← hBx]; exact h
              have HE := Lib.hid henc
              have HXZ := Lib.hid hxz
              have hxz1 : 1 ≤ x.size := by omega
              have hxz2 : x.size ≤ 128 := by omega
              have i5 : (0 : Int) ≤ (a : Int) := by omega
              have i6 : (a : Int) ≤ (a : Int) + (n : Int) := by omega
              have i7 : (a : Int) + (n : Int) ≤ (s.size : Int) := by omega
              clear hBx hxz henc
              go_wp2_with (first
                | (at_builtin; refine wpList_append_lies _ rfl _ _ 29 rfl 0 5 i0 _ 1 1 Try.underlying29 hi hz0 hz1 hz2 rfl (by decide) (.slice ao out.length cap) out.length _ rfl (hown.alloc _) ⟨wr.heap.size, 0, none⟩ 1 1 [.int .u8 ((n : Int) - 1)] rfl rfl (World.news_of_block (heap_alloc_at (w := wr) _)) (by simp [Value.oneCell']) (by decide) (by unfold maxLen; omega) (by omega) (by omega) (wr.heap.size + 1) (by simp) ?_; intro g1 cap1 w6 hown1 hgrow1 hat1 hlt1)
                | (at_builtin; refine wpList_append_src _ rfl _ _ 29 9 rfl 0 5 i0 _ 1 1 Try.underlying29 hi hz0 hz1 hz2 rfl (by decide) (.slice (some ⟨g1, 0, none⟩) (out.length + 1) cap1) (out.length + 1) _ rfl hown1 _ x.size (byteCells x) rfl (by rw [hx]; exact Src.ofString _ Try.underlying9 _) (by omega) (by unfold maxLen; omega) (by omega) (by omega) ?_; intro g2 cap2 w7 hown2 hgrow2 hat2 hlt2; have P1 := push_local (cap := cap1) (n := out.length + 1) hgrow1 hat1; have P2 := push_plain (cap := cap2) (n := out.length + 1 + x.size) hgrow2 hat2; have HP1 := Lib.hid P1; have HP2 := Lib.hid P2; have HO := Lib.hid hown2; clear P1 P2 hgrow1 hgrow2 hat1 hat2 hlt1 hlt2 hown hown1 hown2))
              go_wp2_with fail
              go_roundg (s.size - (a + n))
              case measure => omega
              case rel =>
                have ho := HO.out
                rw [List.append_assoc, List.singleton_append, ← HE.out, ← List.map_append] at ho
                have hl9 : (out ++ enc (l.take n, false)).length = out.length + 1 + x.size := by
                  have h := congrArg List.length HE.out
                  simp only [List.length_map, List.length_cons, byteCells_length] at h
                  rw [List.length_append, h]; omega
                refine ⟨a + n, out ++ enc (l.take n, false), by omega, by go_num, by rw [List.append_assoc]; exact HR.out, by rw [hl9]; have := HXZ.out; omega, ?_⟩
                rw [hl9]
                exact HS2.out.upd 0 (oSl 5 1 _ _ _) rfl (ext_fr HP1.out.1 HP2.out.1 HP1.out.2) (Fr.trans HP1.out.2 HP2.out.2 HP1.out.1.size) ho
    · obtain rfl : a = s.size := by omega
      have hr : out = R := by
        have h := HR.out
        rw [List.drop_eq_nil_of_le (by rw [B_len]; omega), pieces_nil] at h
        simpa using h
      subst hr
      have hown : wr.ownsRow 0 5 1 (.slice ao out.length cap) out.length (out.map c8) := HS.out.get 0 rfl
      clear HR
      go_wp2_with (at_builtin; refine wpList_append_lies _ rfl _ _ 29 rfl 0 5 i0 _ 1 1 Try.underlying29 hi hz0 hz1 hz2 rfl (by decide) (.slice ao out.length cap) out.length _ rfl (hown.alloc _) ⟨wr.heap.size, 0, none⟩ 1 1 [.int .u8 128] rfl rfl (World.news_of_block (heap_alloc_at (w := wr) _)) (by simp [Value.oneCell']) (by decide) (by unfold maxLen; omega) (by omega) (by omega) (wr.heap.size + 1) (by simp) ?_; intro g1 cap1 w3 hown1 hgrow1 hat1 hlt1; rw [show [Value.int .u8 128] = [(128 : UInt8)].map c8 from rfl, ← List.map_append] at hown1; have hct := run_text hown1; have P1 := push_local (cap := cap1) (n := out.length + 1) hgrow1 hat1; have HP := Lib.hid P1; clear P1 hown1 hgrow1 hat1 hlt1 hown)
      go_ret
      exact ⟨rfl, (HS.out.upd 0 (Ob.room []) rfl HP.out.1 (fun _ h => by cases h) (fun _ h => by cases h)).ext⟩
end Go.Proofs.Ytiadnmhginpgfaa.Rn
