/-
  The document's answer for layer 14: Get walked: it tells what 'getL' tells. (Written by wip/mkrd.py.)
-/
import Derived.Test.YtcbllkopolbhaaaLzRc
import Derived.Test.YtcbllkopolbhaaaSrc
namespace Go.Proofs.Ytcbllkopolbhaaa.Lz
open Go.RowKit Go.Maps

def aheadL (ah : Int) (last : List Nat) : List Nat := if ah < 0 then [] else last
theorem src_txt (now : List Nat) (h : ∀ x ∈ now, x < 256) (w : World) : Src Try.prog 1 9 (.string (Bt.txt now)) now.length (now.map Bt.b8) w := by
  have h1 := Src.ofString (P := Try.prog) w Try.underlying9 (Bt.txt now)
  have h2 : byteCells (Bt.txt now) = now.map Bt.b8 := by
    unfold byteCells Bt.txt
    simp only [List.map_map]
    refine List.map_congr_left fun x hx => ?_
    have := h x hx
    simp [Bt.b8, UInt8.toNat_ofNat']
    omega
  rw [Bt.txt_size, h2] at h1
  exact h1
theorem txt_append (a b : List Nat) : Bt.txt a ++ Bt.txt b = Bt.txt (a ++ b) := by
  apply ba_inj
  simp [Bt.txt]
theorem txt_one (a : List Nat) (h : 0 < a.length) : (Bt.txt a).extract 0 1 = Bt.txt [a.headD 0] := by
  cases a with
  | nil => simp at h
  | cons x r =>
    apply ba_inj
    simp [Bt.txt]
theorem txt_ne (a : List Nat) (h : 0 < a.length) : (Bt.txt a).toList.isEmpty = false ∧ ¬ (Bt.txt a).toList = [] := by
  rw [ByteArray.toList_eq]
  cases a with
  | nil => simp at h
  | cons x r => simp [Bt.txt]
theorem rows_len {w : World} {b : Nat} {e : TypeId} {k n m : Nat} {v : Value} {xs : List Value} (h : n = m) (h2 : w.ownsRow b e k v n xs) : w.ownsRow b e k v m xs := h ▸ h2
theorem GInv.bytes {s : ByteArray} {pos : Nat} {tb : List (Nat × Nat)} {code : Nat} {now out : List Nat} (h : GInv s pos tb code now out) : ∀ x ∈ now, x < 256 := by
  rcases h.hah with h4 | ⟨a, _, hok, hl⟩
  · omega
  · rw [hl]; exact (strOf_bound tb h.wf a hok).2.2

set_option maxRecDepth 100000 in
set_option maxHeartbeats 32000000 in
theorem rget_walk (s : ByteArray) (early : Bool) (budget : Int) (w : World) (hs : s.size ≤ 100000) (hb0 : 0 ≤ budget) (hb1 : budget ≤ 9223372036854775807) :
    Calls Try.prog 13 #[.string s, .bool early, .int .i64 budget] w fun e w' => e = .returned (.tuple #[.string (Bt.txt (getL s early budget).1), .int .i64 (getL s early budget).2]) ∧ Ext [] w w' := by
  have hR : getF s early budget (8 * s.size + 1) 0 [] (-1) [] [] = getL s early budget := by rw [getL, if_neg (by omega)]
  generalize getL s early budget = R at hR ⊢
  obtain ⟨j0, hif, hz0, hz1, hz2⟩ := info_parts Bt.infoByte
  obtain ⟨j1, hif', hz0', hz1', hz2'⟩ := info_parts infoStr
  have HR := Lib.hid hR
  clear hR
  go_enter Try.func13, Try.ntmps13
  go_wp2_with fail
  refine (sRfNewH s (Sep.start w) (by omega)).mono ?_; rintro e w1 ⟨b1, F, rfl, S⟩
  have S1 := S.new (Ext.refl [] w1) (oBs (.slice none 0 0) []) (World.ownsRow_nil _ _ _ _) (by simp [oBs, oSl, Value.ownBlock])
  have S2 := S1.new (Ext.refl [] w1) (oSs (.slice none 0 0) (strs [])) (World.ownsRow_nil _ _ _ _) (by simp [oSs, oSl, Value.ownBlock])
  have HS := Lib.hid S2
  clear S S1 S2
  go_wp2_with fail
  go_loopg [9, 10, 11] (8 * s.size + 1) (fun gg vo vr va wr => ∃ pos tb ah last out, va = .string (Bt.txt (aheadL ah last)) ∧ GInv s pos tb ah last out ∧ 8 * s.size < pos + gg ∧ getF s early budget gg pos tb ah last out = R ∧
    Sep w wr [oSs vr (strs tb), oBs vo out, Bt.oRf b1 F (Bt.allBits s true (8 * s.size)) pos])
  case atStart => exact ⟨0, [], -1, [], [], rfl, ⟨by omega, WF.nil, by simp, .inl rfl, by simp, by simp⟩, by omega, HR.out, HS.out⟩
  case round =>
    clear HR HS
    obtain ⟨pos, tb, ah, last, out, rfl, hI, hgg, hR, S⟩ := hrel
    obtain ⟨aot, capt, rfl⟩ := row_shape2 (by omega) (show wr.ownsRow 0 9 1 u10 (strs tb).length _ from S.get 0 rfl)
    obtain ⟨aoo, capo, rfl⟩ := row_shape2 (by omega) (show wr.ownsRow 0 5 1 u9 out.length _ from S.get 1 rfl)
    have hsl := strs_len tb
    rw [hsl] at S ⊢
    have HSL := Lib.hid hsl
    clear hsl
    have HI := Lib.hid hI
    have hpos := hI.hpos
    have hlen := hI.hlen
    have hol := hI.hout
    have hll := hI.hlast
    clear hI
    obtain ⟨f, rfl⟩ : ∃ f, gk = f + 1 := ⟨gk - 1, by omega⟩
    have hwl := wid_le (258 + tb.length) early
    have HR := Lib.hid hR
    have HS := Lib.hid S
    clear hR S
    obtain ⟨A, hA⟩ : ∃ A, Bt.txt (aheadL ah last) = A := ⟨_, rfl⟩
    rw [hA]
    have HA := Lib.hid hA
    clear hA
    go_wp2_with fail
    refine (rwidth_any (258 + tb.length) early _ (by omega)).mono ?_; rintro e w4 ⟨rfl, rfl⟩
    go_wp2_with fail
    by_cases hmore : 8 * s.size < pos + wid (258 + tb.length) early
    · refine (sRfGetMoreH 2 HS.out rfl (by omega) hpos (by omega) hmore).mono ?_; clear HS; rintro e w5 ⟨rfl, S⟩
      have h := HR.out
      rw [getF, if_pos hmore] at h
      have HR2 := Lib.hid h
      clear h
      go_wp2_with fail
      go_ret2
      rw [← HR2.out]
      exact ⟨rfl, S.ext⟩
    · refine (sRfGetH (n := wid (258 + tb.length) early) 2 HS.out rfl (by omega) (by omega) (by omega)).mono ?_; clear HS; rintro e w5 ⟨rfl, S⟩
      have hcl := Bt.getv_lt s true pos (wid (258 + tb.length) early)
      have hc4 : Bt.getv s true pos (wid (258 + tb.length) early) < 4096 := Nat.lt_of_lt_of_le hcl (Nat.pow_le_pow_right (by omega) hwl.2 : _ ≤ 2 ^ 12)
      clear hcl
      have h := HR.out
      rw [getF, if_neg hmore] at h
      generalize Bt.getv s true pos (wid (258 + tb.length) early) = code at h hc4 ⊢
      generalize wid (258 + tb.length) early = wd at h hmore hwl S ⊢
      have HR2 := Lib.hid h
      clear h HR
      have HS := Lib.hid S
      clear S
      by_cases h257 : code = 257
      · subst h257
        have hct := Bt.run_row_text (HS.out.get 1 rfl)
        have h := HR2.out
        rw [if_pos rfl] at h
        have HR3 := Lib.hid h
        clear h
        go_wp2_with fail
        go_ret2
        rw [← HR3.out]
        exact ⟨rfl, HS.out.ext⟩
      · by_cases h256 : code = 256
        · subst h256
          have h := HR2.out
          rw [if_neg (by omega), if_pos rfl] at h
          have HR3 := Lib.hid h
          clear h
          go_wp2_with fail
          go_roundg f
          case measure => omega
          case rel =>
            refine ⟨pos + wd, [], -1, last, out, rfl, ⟨by omega, WF.nil, by simp, .inl rfl, by omega, hll⟩, by omega, HR3.out, ?_⟩
            exact HS.out.upd 0 (oSs (.slice none 0 0) (strs [])) rfl (Ext.refl _ _) (by intro q hq; simp [oSs, oSl, Value.ownBlock] at hq) (World.ownsRow_nil _ _ _ _)
        · have h := HR2.out
          rw [if_neg h257, if_neg h256] at h
          have HR3 := Lib.hid h
          clear h HR2
          by_cases hah : ah < 0
          · have hA0 : A = ⟨#[]⟩ := by rw [← HA.out, aheadL, if_pos hah]; rfl
            subst hA0
            by_cases hbad : 258 + tb.length < code ∨ code = 258 + tb.length ∧ (ah < 0 ∨ 258 + tb.length = 4096)
            · have h := HR3.out
              rw [if_pos hbad] at h
              have HR4 := Lib.hid h
              clear h HR3
              have hge : 258 + tb.length ≤ code := by omega
              have hge2 : 256 ≤ code := by omega
              clear hbad
              go_wp2_with fail
              all_goals go_ret2
              all_goals rw [← HR4.out]
              all_goals exact ⟨rfl, HS.out.ext⟩
            · have h := HR3.out
              rw [if_neg hbad] at h
              have HR4 := Lib.hid h
              clear h HR3
              obtain ⟨n1, n2, n3, hI'⟩ := HI.out.step h257 h256 hbad hwl.1 hmore
              have HN := Lib.hid hI'
              clear hI'
              have hlt : code < 258 + tb.length := by omega
              have hnx : code ≠ 258 + tb.length := by omega
              clear hbad
              by_cases h2 : code < 256
              · obtain ⟨N, hN⟩ : ∃ N, Bt.txt (nowOf tb last code) = N := ⟨_, rfl⟩
                have hby := HN.out.bytes
                have hsrc := fun wx => src_txt (nowOf tb last code) hby wx
                have hNs := Bt.txt_size (nowOf tb last code)
                rw [hN] at hsrc hNs
                have hno : nowOf tb last code = [code] := by rw [nowOf, if_neg hnx, strOf, if_pos h2]
                have hct := Bt.run_row_text (bs := [code]) (byte_row w5 (Bt.b8 code))
                rw [← hno, hN] at hct
                have hct2 : (convert 36 9 (.slice (some ⟨w5.heap.size, 0, none⟩) 1 1)).run Try.prog (w5.alloc (.cells #[.int .u8 (code : Int)] 5 (0, 0))) = .ok (.string N) (w5.alloc (.cells #[.int .u8 (code : Int)] 5 (0, 0))) := hct
                clear hct hno
                have HS := Lib.hid (HS.out.quiet ((Ext.refl [] w5).alloc (.cells #[.int .u8 (code : Int)] 5 (0, 0))))
                generalize nowOf tb last code = now at *
                have hN1 : 1 ≤ N.size := by omega
                have hN2 : N.size ≤ 3840 := by omega
                have HSRC := Lib.hid (fun wx => hsrc wx)
                have HNN := Lib.hid hN
                clear hsrc hN hby
                have hown : (w5.alloc (.cells #[.int .u8 (code : Int)] 5 (0, 0))).ownsRow 0 5 1 (.slice aoo out.length capo) out.length (out.map Bt.b8) := HS.out.get 1 rfl
                by_cases hlong : budget - out.length < now.length
                · have h := HR4.out
                  rw [if_pos hlong] at h
                  have HR5 := Lib.hid h
                  clear h HR4 hown
                  go_wp2_with fail
                  go_ret2
                  rw [← HR5.out]
                  exact ⟨rfl, HS.out.ext⟩
                · have h := HR4.out
                  rw [if_neg hlong] at h
                  have HR5 := Lib.hid h
                  clear h HR4
                  have ht : tbOf tb (ah) now = tb := if_neg (fun h => absurd h.1 (by omega))
                  rw [ht] at HN HR5
                  clear ht
                  go_wp2_with (at_builtin; refine wpList_append_src _ rfl _ _ 36 9 rfl 0 5 j0 _ 1 1 Try.underlying36 hif hz0 hz1 hz2 rfl (by decide) (.slice aoo out.length capo) out.length (out.map Bt.b8) rfl hown (.string N) now.length (now.map Bt.b8) rfl (HSRC.out _) n1 (by unfold maxLen; omega) (by omega) (by omega) ?_; intro g1 cap1 w7 hown1 hgrow1 hat1 hlt1; have P1 := push_plain (cap := cap1) (n := out.length + now.length) hgrow1 hat1; have S7 := HS.out.upd 1 (oBs (.slice (some ⟨g1, 0, none⟩) (out.length + now.length) cap1) (out ++ now)) rfl P1.1 P1.2 (show w7.ownsRow 0 5 1 _ _ _ by rw [List.map_append, List.length_append]; exact hown1); have H7 := Lib.hid S7; clear S7 P1 hown1 hgrow1 hat1 hown)
                  go_roundg f
                  case measure => omega
                  case rel => exact ⟨pos + wd, tb, code, now, out ++ now, (by rw [aheadL, if_neg (by omega), HNN.out]), HN.out, by omega, HR5.out, H7.out⟩
              · obtain ⟨N, hN⟩ : ∃ N, Bt.txt (nowOf tb last code) = N := ⟨_, rfl⟩
                have hby := HN.out.bytes
                have hsrc := fun wx => src_txt (nowOf tb last code) hby wx
                have hNs := Bt.txt_size (nowOf tb last code)
                rw [hN] at hsrc hNs
                have hge : 256 ≤ code := by omega
                obtain ⟨i, rfl, hi⟩ : ∃ i, code = i + 258 ∧ i < tb.length := ⟨code - 258, by omega, by omega⟩
                obtain ⟨gt, capt', hv⟩ := row_form (show w5.ownsRow 0 9 1 (.slice aot tb.length capt) (strs tb).length ((strs tb).map sv) from HS.out.get 0 rfl) (by rw [HSL.out]; omega)
                obtain ⟨rfl, hv2, rfl⟩ : aot = some ⟨gt, 0, none⟩ ∧ tb.length = (strs tb).length ∧ capt = capt' := by simpa using hv
                clear hv hv2
                have hno : nowOf tb last (i + 258) = strOf (strs tb) (i + 258) := by rw [nowOf, if_neg hnx]
                have q1 : w5.cell? ⟨gt, i, none⟩ = some (.string N) := ownsRow_at (rows_len HSL.out (show w5.ownsRow 0 9 1 (.slice (some ⟨gt, 0, none⟩) tb.length capt) (strs tb).length ((strs tb).map sv) from HS.out.get 0 rfl)) (by
                  have := strs_get tb i hi
                  rw [← hno] at this
                  simp [hi, HSL.out, this, sv, hN])
                have i1 : (0 : Int) ≤ (i : Int) := by omega
                have i2 : (i : Int) < (tb.length : Int) := by omega
                clear hno
                generalize nowOf tb last (i + 258) = now at *
                have hN1 : 1 ≤ N.size := by omega
                have hN2 : N.size ≤ 3840 := by omega
                have HSRC := Lib.hid (fun wx => hsrc wx)
                have HNN := Lib.hid hN
                clear hsrc hN hby
                have hown : w5.ownsRow 0 5 1 (.slice aoo out.length capo) out.length (out.map Bt.b8) := HS.out.get 1 rfl
                by_cases hlong : budget - out.length < now.length
                · have h := HR4.out
                  rw [if_pos hlong] at h
                  have HR5 := Lib.hid h
                  clear h HR4 hown
                  go_wp2_with fail
                  go_ret2
                  rw [← HR5.out]
                  exact ⟨rfl, HS.out.ext⟩
                · have h := HR4.out
                  rw [if_neg hlong] at h
                  have HR5 := Lib.hid h
                  clear h HR4
                  have ht : tbOf tb (ah) now = tb := if_neg (fun h => absurd h.1 (by omega))
                  rw [ht] at HN HR5
                  clear ht
                  go_wp2_with (at_builtin; refine wpList_append_src _ rfl _ _ 36 9 rfl 0 5 j0 _ 1 1 Try.underlying36 hif hz0 hz1 hz2 rfl (by decide) (.slice aoo out.length capo) out.length (out.map Bt.b8) rfl hown (.string N) now.length (now.map Bt.b8) rfl (HSRC.out _) n1 (by unfold maxLen; omega) (by omega) (by omega) ?_; intro g1 cap1 w7 hown1 hgrow1 hat1 hlt1; have P1 := push_plain (cap := cap1) (n := out.length + now.length) hgrow1 hat1; have S7 := HS.out.upd 1 (oBs (.slice (some ⟨g1, 0, none⟩) (out.length + now.length) cap1) (out ++ now)) rfl P1.1 P1.2 (show w7.ownsRow 0 5 1 _ _ _ by rw [List.map_append, List.length_append]; exact hown1); have H7 := Lib.hid S7; clear S7 P1 hown1 hgrow1 hat1 hown)
                  go_roundg f
                  case measure => omega
                  case rel => exact ⟨pos + wd, tb, (i + 258 : Nat), now, out ++ now, (by rw [aheadL, if_neg (by omega), HNN.out]), HN.out, by omega, HR5.out, H7.out⟩
          · have hA0 : A = Bt.txt last := by rw [← HA.out, aheadL, if_neg hah]
            obtain ⟨a, rfl, hoka, hlast⟩ : ∃ a : Nat, ah = a ∧ okCode tb.length a ∧ last = strOf (strs tb) a := by
              rcases HI.out.hah with h4 | h4
              · omega
              · exact h4
            obtain ⟨l1, _, _⟩ := strOf_bound tb HI.out.wf a hoka
            rw [← hlast] at l1
            have hne := txt_ne last l1
            rw [← hA0] at hne
            obtain ⟨hne1, hne2⟩ := hne
            have hAsz : A.size ≤ 3840 := by rw [hA0, Bt.txt_size]; omega
            have HA0 := Lib.hid hA0
            have HLAST := Lib.hid hlast
            clear hA0 hlast hoka hah
            by_cases hbad : 258 + tb.length < code ∨ code = 258 + tb.length ∧ ((a : Int) < 0 ∨ 258 + tb.length = 4096)
            · have h := HR3.out
              rw [if_pos hbad] at h
              have HR4 := Lib.hid h
              clear h HR3
              have hge : 258 + tb.length < code := by omega
              have hge2 : 256 ≤ code := by omega
              clear hbad
              go_wp2_with fail
              all_goals go_ret2
              all_goals rw [← HR4.out]
              all_goals exact ⟨rfl, HS.out.ext⟩
            · have h := HR3.out
              rw [if_neg hbad] at h
              have HR4 := Lib.hid h
              clear h HR3
              obtain ⟨n1, n2, n3, hI'⟩ := HI.out.step h257 h256 hbad hwl.1 hmore
              have HN := Lib.hid hI'
              clear hI'
              by_cases hnx : code = 258 + tb.length
              · have hno : nowOf tb last code = last ++ [last.headD 0] := if_pos hnx
                have hcat : A ++ A.extract 0 1 = Bt.txt (nowOf tb last code) := by rw [hno, HA0.out, txt_one last l1, txt_append]
                have hAz : 1 ≤ A.size := by rw [HA0.out, Bt.txt_size]; omega
                have hx1 : 258 + tb.length ≤ code := by omega
                have hx2 : code ≤ 258 + tb.length := by omega
                have hx3 : 256 ≤ code := by omega
                have HX := Lib.hid hnx
                clear hno hbad hnx
                obtain ⟨N, hN⟩ : ∃ N, Bt.txt (nowOf tb last code) = N := ⟨_, rfl⟩
                have hby := HN.out.bytes
                have hsrc := fun wx => src_txt (nowOf tb last code) hby wx
                have hNs := Bt.txt_size (nowOf tb last code)
                rw [hN] at hsrc hNs
                rw [hN] at hcat
                obtain ⟨hd, hhd⟩ : ∃ hd, (nowOf tb last code).headD 0 = hd := ⟨_, rfl⟩
                have hex : A ++ N.extract 0 1 = Bt.txt (last ++ [hd]) := by rw [← hN, txt_one _ n1, hhd, HA0.out, txt_append]
                obtain ⟨X, hX⟩ : ∃ X, Bt.txt (last ++ [hd]) = X := ⟨_, rfl⟩
                rw [hX] at hex
                have hxs : Bt.txt (strOf (strs tb) a ++ [hd]) = X := by rw [← HLAST.out]; exact hX
                have HHD := Lib.hid hhd
                have HXS := Lib.hid hxs
                clear hhd hX hxs
                generalize nowOf tb last code = now at *
                have hN1 : 1 ≤ N.size := by omega
                have hN2 : N.size ≤ 3840 := by omega
                have HSRC := Lib.hid (fun wx => hsrc wx)
                have HNN := Lib.hid hN
                clear hsrc hN hby
                have hown : w5.ownsRow 0 5 1 (.slice aoo out.length capo) out.length (out.map Bt.b8) := HS.out.get 1 rfl
                by_cases hlong : budget - out.length < now.length
                · have h := HR4.out
                  rw [if_pos hlong] at h
                  have HR5 := Lib.hid h
                  clear h HR4 hown
                  go_wp2_with fail
                  go_ret2
                  rw [← HR5.out]
                  exact ⟨rfl, HS.out.ext⟩
                · have h := HR4.out
                  rw [if_neg hlong] at h
                  have HR5 := Lib.hid h
                  clear h HR4
                  by_cases h96 : 258 + tb.length < 4096
                  · have ht : tbOf tb (a : Int) now = tb ++ [(a, hd)] := by rw [← HHD.out]; exact if_pos ⟨by omega, h96⟩
                    rw [ht] at HN HR5
                    clear ht
                    go_wp2_with (first | (at_builtin; refine wpList_append_src _ rfl _ _ 36 9 rfl 0 5 j0 _ 1 1 Try.underlying36 hif hz0 hz1 hz2 rfl (by decide) (.slice aoo out.length capo) out.length (out.map Bt.b8) rfl hown (.string N) now.length (now.map Bt.b8) rfl (HSRC.out _) n1 (by unfold maxLen; omega) (by omega) (by omega) ?_; intro g1 cap1 w7 hown1 hgrow1 hat1 hlt1; have P1 := push_plain (cap := cap1) (n := out.length + now.length) hgrow1 hat1; have S7 := HS.out.upd 1 (oBs (.slice (some ⟨g1, 0, none⟩) (out.length + now.length) cap1) (out ++ now)) rfl P1.1 P1.2 (show w7.ownsRow 0 5 1 _ _ _ by rw [List.map_append, List.length_append]; exact hown1); have H7 := Lib.hid S7; clear S7 P1 hown1 hgrow1 hat1 hown) | (at_builtin; refine wpList_append_lies _ rfl _ _ 61 rfl 0 9 j1 _ 1 16 Try.underlying61 hif' hz0' hz1' hz2' rfl (by decide) (.slice aot tb.length capt) tb.length ((strs tb).map sv) rfl (World.ownsRow.alloc (rows_len HSL.out (show w7.ownsRow 0 9 1 (.slice aot tb.length capt) (strs tb).length ((strs tb).map sv) from H7.out.get 0 rfl)) _) ⟨w7.heap.size, 0, none⟩ 1 1 [.string X] rfl rfl (cell_one_new _ _ _) (by simp [Value.oneCell']) (by decide) (by unfold maxLen; omega) (by omega) (by omega) (w7.heap.size + 1) (by simp) ?_; intro g2 cap2 w8 hown2 hgrow2 hat2 hlt2; have P2 := push_local (cap := cap2) (n := tb.length + 1) hgrow2 hat2; have S8 := H7.out.upd 0 (oSs (.slice (some ⟨g2, 0, none⟩) (tb.length + 1) cap2) (strs (tb ++ [(a, hd)]))) rfl P2.1 P2.2 (show w8.ownsRow 0 9 1 _ _ _ by rw [strs_snoc_map, sv, HXS.out, show (strs (tb ++ [(a, hd)])).length = tb.length + 1 by rw [strs_snoc, List.length_append, HSL.out]; rfl]; exact hown2); have H8 := Lib.hid S8; clear S8 P2 hown2 hgrow2 hat2))
                    go_roundg f
                    case measure => omega
                    case rel => exact ⟨pos + wd, tb ++ [(a, hd)], code, now, out ++ now, (by rw [aheadL, if_neg (by omega), HNN.out]), HN.out, by omega, HR5.out, H8.out⟩
                  · exact absurd (by omega) h96
              · have hlt : code < 258 + tb.length := by omega
                clear hbad
                by_cases h2 : code < 256
                · obtain ⟨N, hN⟩ : ∃ N, Bt.txt (nowOf tb last code) = N := ⟨_, rfl⟩
                  have hby := HN.out.bytes
                  have hsrc := fun wx => src_txt (nowOf tb last code) hby wx
                  have hNs := Bt.txt_size (nowOf tb last code)
                  rw [hN] at hsrc hNs
                  obtain ⟨hd, hhd⟩ : ∃ hd, (nowOf tb last code).headD 0 = hd := ⟨_, rfl⟩
                  have hex : A ++ N.extract 0 1 = Bt.txt (last ++ [hd]) := by rw [← hN, txt_one _ n1, hhd, HA0.out, txt_append]
                  obtain ⟨X, hX⟩ : ∃ X, Bt.txt (last ++ [hd]) = X := ⟨_, rfl⟩
                  rw [hX] at hex
                  have hxs : Bt.txt (strOf (strs tb) a ++ [hd]) = X := by rw [← HLAST.out]; exact hX
                  have HHD := Lib.hid hhd
                  have HXS := Lib.hid hxs
                  clear hhd hX hxs
                  have hno : nowOf tb last code = [code] := by rw [nowOf, if_neg hnx, strOf, if_pos h2]
                  have hct := Bt.run_row_text (bs := [code]) (byte_row w5 (Bt.b8 code))
                  rw [← hno, hN] at hct
                  have hct2 : (convert 36 9 (.slice (some ⟨w5.heap.size, 0, none⟩) 1 1)).run Try.prog (w5.alloc (.cells #[.int .u8 (code : Int)] 5 (0, 0))) = .ok (.string N) (w5.alloc (.cells #[.int .u8 (code : Int)] 5 (0, 0))) := hct
                  clear hct hno
                  have HS := Lib.hid (HS.out.quiet ((Ext.refl [] w5).alloc (.cells #[.int .u8 (code : Int)] 5 (0, 0))))
                  generalize nowOf tb last code = now at *
                  have hN1 : 1 ≤ N.size := by omega
                  have hN2 : N.size ≤ 3840 := by omega
                  have HSRC := Lib.hid (fun wx => hsrc wx)
                  have HNN := Lib.hid hN
                  clear hsrc hN hby
                  have hown : (w5.alloc (.cells #[.int .u8 (code : Int)] 5 (0, 0))).ownsRow 0 5 1 (.slice aoo out.length capo) out.length (out.map Bt.b8) := HS.out.get 1 rfl
                  by_cases hlong : budget - out.length < now.length
                  · have h := HR4.out
                    rw [if_pos hlong] at h
                    have HR5 := Lib.hid h
                    clear h HR4 hown
                    go_wp2_with fail
                    go_ret2
                    rw [← HR5.out]
                    exact ⟨rfl, HS.out.ext⟩
                  · have h := HR4.out
                    rw [if_neg hlong] at h
                    have HR5 := Lib.hid h
                    clear h HR4
                    by_cases h96 : 258 + tb.length < 4096
                    · have ht : tbOf tb (a : Int) now = tb ++ [(a, hd)] := by rw [← HHD.out]; exact if_pos ⟨by omega, h96⟩
                      rw [ht] at HN HR5
                      clear ht
                      go_wp2_with (first | (at_builtin; refine wpList_append_src _ rfl _ _ 36 9 rfl 0 5 j0 _ 1 1 Try.underlying36 hif hz0 hz1 hz2 rfl (by decide) (.slice aoo out.length capo) out.length (out.map Bt.b8) rfl hown (.string N) now.length (now.map Bt.b8) rfl (HSRC.out _) n1 (by unfold maxLen; omega) (by omega) (by omega) ?_; intro g1 cap1 w7 hown1 hgrow1 hat1 hlt1; have P1 := push_plain (cap := cap1) (n := out.length + now.length) hgrow1 hat1; have S7 := HS.out.upd 1 (oBs (.slice (some ⟨g1, 0, none⟩) (out.length + now.length) cap1) (out ++ now)) rfl P1.1 P1.2 (show w7.ownsRow 0 5 1 _ _ _ by rw [List.map_append, List.length_append]; exact hown1); have H7 := Lib.hid S7; clear S7 P1 hown1 hgrow1 hat1 hown) | (at_builtin; refine wpList_append_lies _ rfl _ _ 61 rfl 0 9 j1 _ 1 16 Try.underlying61 hif' hz0' hz1' hz2' rfl (by decide) (.slice aot tb.length capt) tb.length ((strs tb).map sv) rfl (World.ownsRow.alloc (rows_len HSL.out (show w7.ownsRow 0 9 1 (.slice aot tb.length capt) (strs tb).length ((strs tb).map sv) from H7.out.get 0 rfl)) _) ⟨w7.heap.size, 0, none⟩ 1 1 [.string X] rfl rfl (cell_one_new _ _ _) (by simp [Value.oneCell']) (by decide) (by unfold maxLen; omega) (by omega) (by omega) (w7.heap.size + 1) (by simp) ?_; intro g2 cap2 w8 hown2 hgrow2 hat2 hlt2; have P2 := push_local (cap := cap2) (n := tb.length + 1) hgrow2 hat2; have S8 := H7.out.upd 0 (oSs (.slice (some ⟨g2, 0, none⟩) (tb.length + 1) cap2) (strs (tb ++ [(a, hd)]))) rfl P2.1 P2.2 (show w8.ownsRow 0 9 1 _ _ _ by rw [strs_snoc_map, sv, HXS.out, show (strs (tb ++ [(a, hd)])).length = tb.length + 1 by rw [strs_snoc, List.length_append, HSL.out]; rfl]; exact hown2); have H8 := Lib.hid S8; clear S8 P2 hown2 hgrow2 hat2))
                      go_roundg f
                      case measure => omega
                      case rel => exact ⟨pos + wd, tb ++ [(a, hd)], code, now, out ++ now, (by rw [aheadL, if_neg (by omega), HNN.out]), HN.out, by omega, HR5.out, H8.out⟩
                    · have ht : tbOf tb (a : Int) now = tb := if_neg (fun h => h96 h.2)
                      rw [ht] at HN HR5
                      clear ht
                      go_wp2_with (at_builtin; refine wpList_append_src _ rfl _ _ 36 9 rfl 0 5 j0 _ 1 1 Try.underlying36 hif hz0 hz1 hz2 rfl (by decide) (.slice aoo out.length capo) out.length (out.map Bt.b8) rfl hown (.string N) now.length (now.map Bt.b8) rfl (HSRC.out _) n1 (by unfold maxLen; omega) (by omega) (by omega) ?_; intro g1 cap1 w7 hown1 hgrow1 hat1 hlt1; have P1 := push_plain (cap := cap1) (n := out.length + now.length) hgrow1 hat1; have S7 := HS.out.upd 1 (oBs (.slice (some ⟨g1, 0, none⟩) (out.length + now.length) cap1) (out ++ now)) rfl P1.1 P1.2 (show w7.ownsRow 0 5 1 _ _ _ by rw [List.map_append, List.length_append]; exact hown1); have H7 := Lib.hid S7; clear S7 P1 hown1 hgrow1 hat1 hown)
                      go_roundg f
                      case measure => omega
                      case rel => exact ⟨pos + wd, tb, code, now, out ++ now, (by rw [aheadL, if_neg (by omega), HNN.out]), HN.out, by omega, HR5.out, H7.out⟩
                · obtain ⟨N, hN⟩ : ∃ N, Bt.txt (nowOf tb last code) = N := ⟨_, rfl⟩
                  have hby := HN.out.bytes
                  have hsrc := fun wx => src_txt (nowOf tb last code) hby wx
                  have hNs := Bt.txt_size (nowOf tb last code)
                  rw [hN] at hsrc hNs
                  obtain ⟨hd, hhd⟩ : ∃ hd, (nowOf tb last code).headD 0 = hd := ⟨_, rfl⟩
                  have hex : A ++ N.extract 0 1 = Bt.txt (last ++ [hd]) := by rw [← hN, txt_one _ n1, hhd, HA0.out, txt_append]
                  obtain ⟨X, hX⟩ : ∃ X, Bt.txt (last ++ [hd]) = X := ⟨_, rfl⟩
                  rw [hX] at hex
                  have hxs : Bt.txt (strOf (strs tb) a ++ [hd]) = X := by rw [← HLAST.out]; exact hX
                  have HHD := Lib.hid hhd
                  have HXS := Lib.hid hxs
                  clear hhd hX hxs
                  have hge : 256 ≤ code := by omega
                  obtain ⟨i, rfl, hi⟩ : ∃ i, code = i + 258 ∧ i < tb.length := ⟨code - 258, by omega, by omega⟩
                  obtain ⟨gt, capt', hv⟩ := row_form (show w5.ownsRow 0 9 1 (.slice aot tb.length capt) (strs tb).length ((strs tb).map sv) from HS.out.get 0 rfl) (by rw [HSL.out]; omega)
                  obtain ⟨rfl, hv2, rfl⟩ : aot = some ⟨gt, 0, none⟩ ∧ tb.length = (strs tb).length ∧ capt = capt' := by simpa using hv
                  clear hv hv2
                  have hno : nowOf tb last (i + 258) = strOf (strs tb) (i + 258) := by rw [nowOf, if_neg hnx]
                  have q1 : w5.cell? ⟨gt, i, none⟩ = some (.string N) := ownsRow_at (rows_len HSL.out (show w5.ownsRow 0 9 1 (.slice (some ⟨gt, 0, none⟩) tb.length capt) (strs tb).length ((strs tb).map sv) from HS.out.get 0 rfl)) (by
                    have := strs_get tb i hi
                    rw [← hno] at this
                    simp [hi, HSL.out, this, sv, hN])
                  have i1 : (0 : Int) ≤ (i : Int) := by omega
                  have i2 : (i : Int) < (tb.length : Int) := by omega
                  clear hno
                  generalize nowOf tb last (i + 258) = now at *
                  have hN1 : 1 ≤ N.size := by omega
                  have hN2 : N.size ≤ 3840 := by omega
                  have HSRC := Lib.hid (fun wx => hsrc wx)
                  have HNN := Lib.hid hN
                  clear hsrc hN hby
                  have hown : w5.ownsRow 0 5 1 (.slice aoo out.length capo) out.length (out.map Bt.b8) := HS.out.get 1 rfl
                  by_cases hlong : budget - out.length < now.length
                  · have h := HR4.out
                    rw [if_pos hlong] at h
                    have HR5 := Lib.hid h
                    clear h HR4 hown
                    go_wp2_with fail
                    go_ret2
                    rw [← HR5.out]
                    exact ⟨rfl, HS.out.ext⟩
                  · have h := HR4.out
                    rw [if_neg hlong] at h
                    have HR5 := Lib.hid h
                    clear h HR4
                    by_cases h96 : 258 + tb.length < 4096
                    · have ht : tbOf tb (a : Int) now = tb ++ [(a, hd)] := by rw [← HHD.out]; exact if_pos ⟨by omega, h96⟩
                      rw [ht] at HN HR5
                      clear ht
                      go_wp2_with (first | (at_builtin; refine wpList_append_src _ rfl _ _ 36 9 rfl 0 5 j0 _ 1 1 Try.underlying36 hif hz0 hz1 hz2 rfl (by decide) (.slice aoo out.length capo) out.length (out.map Bt.b8) rfl hown (.string N) now.length (now.map Bt.b8) rfl (HSRC.out _) n1 (by unfold maxLen; omega) (by omega) (by omega) ?_; intro g1 cap1 w7 hown1 hgrow1 hat1 hlt1; have P1 := push_plain (cap := cap1) (n := out.length + now.length) hgrow1 hat1; have S7 := HS.out.upd 1 (oBs (.slice (some ⟨g1, 0, none⟩) (out.length + now.length) cap1) (out ++ now)) rfl P1.1 P1.2 (show w7.ownsRow 0 5 1 _ _ _ by rw [List.map_append, List.length_append]; exact hown1); have H7 := Lib.hid S7; clear S7 P1 hown1 hgrow1 hat1 hown) | (at_builtin; refine wpList_append_lies _ rfl _ _ 61 rfl 0 9 j1 _ 1 16 Try.underlying61 hif' hz0' hz1' hz2' rfl (by decide) (.slice (some ⟨gt, 0, none⟩) tb.length capt) tb.length ((strs tb).map sv) rfl (World.ownsRow.alloc (rows_len HSL.out (show w7.ownsRow 0 9 1 (.slice (some ⟨gt, 0, none⟩) tb.length capt) (strs tb).length ((strs tb).map sv) from H7.out.get 0 rfl)) _) ⟨w7.heap.size, 0, none⟩ 1 1 [.string X] rfl rfl (cell_one_new _ _ _) (by simp [Value.oneCell']) (by decide) (by unfold maxLen; omega) (by omega) (by omega) (w7.heap.size + 1) (by simp) ?_; intro g2 cap2 w8 hown2 hgrow2 hat2 hlt2; have P2 := push_local (cap := cap2) (n := tb.length + 1) hgrow2 hat2; have S8 := H7.out.upd 0 (oSs (.slice (some ⟨g2, 0, none⟩) (tb.length + 1) cap2) (strs (tb ++ [(a, hd)]))) rfl P2.1 P2.2 (show w8.ownsRow 0 9 1 _ _ _ by rw [strs_snoc_map, sv, HXS.out, show (strs (tb ++ [(a, hd)])).length = tb.length + 1 by rw [strs_snoc, List.length_append, HSL.out]; rfl]; exact hown2); have H8 := Lib.hid S8; clear S8 P2 hown2 hgrow2 hat2))
                      go_roundg f
                      case measure => omega
                      case rel => exact ⟨pos + wd, tb ++ [(a, hd)], (i + 258 : Nat), now, out ++ now, (by rw [aheadL, if_neg (by omega), HNN.out]), HN.out, by omega, HR5.out, H8.out⟩
                    · have ht : tbOf tb (a : Int) now = tb := if_neg (fun h => h96 h.2)
                      rw [ht] at HN HR5
                      clear ht
                      go_wp2_with (at_builtin; refine wpList_append_src _ rfl _ _ 36 9 rfl 0 5 j0 _ 1 1 Try.underlying36 hif hz0 hz1 hz2 rfl (by decide) (.slice aoo out.length capo) out.length (out.map Bt.b8) rfl hown (.string N) now.length (now.map Bt.b8) rfl (HSRC.out _) n1 (by unfold maxLen; omega) (by omega) (by omega) ?_; intro g1 cap1 w7 hown1 hgrow1 hat1 hlt1; have P1 := push_plain (cap := cap1) (n := out.length + now.length) hgrow1 hat1; have S7 := HS.out.upd 1 (oBs (.slice (some ⟨g1, 0, none⟩) (out.length + now.length) cap1) (out ++ now)) rfl P1.1 P1.2 (show w7.ownsRow 0 5 1 _ _ _ by rw [List.map_append, List.length_append]; exact hown1); have H7 := Lib.hid S7; clear S7 P1 hown1 hgrow1 hat1 hown)
                      go_roundg f
                      case measure => omega
                      case rel => exact ⟨pos + wd, tb, (i + 258 : Nat), now, out ++ now, (by rw [aheadL, if_neg (by omega), HNN.out]), HN.out, by omega, HR5.out, H7.out⟩
end Go.Proofs.Ytcbllkopolbhaaa.Lz
