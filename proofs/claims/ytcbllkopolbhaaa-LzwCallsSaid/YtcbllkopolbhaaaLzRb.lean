/-
  The document's answer for layer 14: Codes walked: it tells 'codes'.
-/
import Derived.Test.YtcbllkopolbhaaaLzRa
namespace Go.Proofs.Ytcbllkopolbhaaa.Lz
open Go.RowKit Go.Maps

theorem infoStr : (Try.prog.info? 9).map (fun i => (i.zero, i.size, i.bytes)) = some (some (.string ⟨#[]⟩), 1, 16) := by kernel_rfl
theorem tail_take (s : ByteArray) (k m : Nat) (h : k + m < s.size) : (tailB s k).take (m + 1) = (tailB s k).take m ++ [Bt.byteAt s (k + m)] := by
  have hl : m < (tailB s k).length := by rw [tailB_len]; omega
  rw [List.take_succ_eq_append_getElem hl]
  simp [tailB]
theorem strs_snoc_map (tb : List (Nat × Nat)) (r c : Nat) : (strs (tb ++ [(r, c)])).map sv = (strs tb).map sv ++ [sv (strOf (strs tb) r ++ [c])] := by
  rw [strs_snoc, List.map_append]; rfl

set_option maxRecDepth 100000 in
set_option maxHeartbeats 16000000 in
theorem rcodes_walk (s : ByteArray) (w : World) (hs : s.size ≤ 1048576) :
    Calls Try.prog 15 #[.string s] w fun e w' => ∃ v, e = .returned v ∧ Sep w w' [oSl 3 1 v (codes (tailB s 0)).length ((codes (tailB s 0)).map iv)] := by
  obtain ⟨i0, hif, hz0, hz1, hz2⟩ := info_parts infoInt
  obtain ⟨i1, hif', hz0', hz1', hz2'⟩ := info_parts infoStr
  have S0 := (Sep.start w).new ((Ext.refl _ w).alloc (.cells #[iv 256] 3 (0, 0))) (oSl 3 1 (.slice (some ⟨w.heap.size, 0, none⟩) 1 1) 1 [iv 256]) (row_one w (iv 256)) (fun q hq => by simp [oSl, Value.ownBlock] at hq; omega)
  have S1 := S0.new (Ext.refl [] _) (oSs (.slice none 0 0) []) (World.ownsRow_nil _ _ _ _) (by simp [oSs, oSl, Value.ownBlock])
  have H1 := Lib.hid S1
  clear S0 S1
  go_enter Try.func15, Try.ntmps15
  go_wp2_with fail
  go_loopg [3, 4, 5, 6] s.size (fun g ov rv qv kv wr => ∃ k : Nat, g + k = s.size ∧ kv = .int .i64 k ∧ ∃ o tb, ∃ q : Nat, qv = .int .i64 q ∧ q + 257 < 4094 ∧ tb.length ≤ q ∧ WF tb ∧ tb.Nodup ∧ o.length ≤ 2 * k + 1 ∧
    o ++ codesT tb (q + 257) (tailB s k) = codes (tailB s 0) ∧ Sep w wr [oSs rv (strs tb), oSl 3 1 ov o.length (o.map iv)])
  case atStart => exact ⟨0, by omega, rfl, [256], [], 0, rfl, by omega, by simp, WF.nil, by simp, by simp, rfl, H1.out⟩
  case round =>
    clear H1
    obtain ⟨k, hk, rfl, o, tb, q, rfl, hq, htb, hwf, hnd, ho, hC, S⟩ := hrel
    have HC := Lib.hid hC
    have HW := Lib.hid hwf
    have HND := Lib.hid hnd
    clear hC hwf hnd
    obtain ⟨ao, capo, rfl⟩ := row_shape2 (by omega) (show wr.ownsRow 0 3 1 u3 o.length _ from S.get 1 rfl)
    obtain ⟨ar, capr, rfl⟩ := row_shape2 (by omega) (show wr.ownsRow 0 9 1 u4 (strs tb).length _ from S.get 0 rfl)
    have hsl := strs_len tb
    have hown : wr.ownsRow 0 3 1 (.slice ao o.length capo) o.length (o.map iv) := S.get 1 rfl
    have hownr : wr.ownsRow 0 9 1 (.slice ar (strs tb).length capr) (strs tb).length ((strs tb).map sv) := S.get 0 rfl
    have HL := Lib.hid hsl
    clear hsl
    have HS := Lib.hid S
    clear S
    by_cases hks : k < s.size
    · obtain ⟨er, el, hE⟩ : ∃ er el, ext tb (Bt.byteAt s k) (tailB s (k + 1)) = (er, el) := ⟨_, _, rfl⟩
      have HE := Lib.hid hE
      clear hE
      obtain ⟨wo, hwo⟩ : ∃ wo : World, wo = wr := ⟨wr, rfl⟩
      have HWO := Lib.hid hwo
      clear hwo
      have h1 : (tailB s k).take 1 = [Bt.byteAt s k] := by rw [tailB_cons s k hks]; rfl
      have hb1 := Bt.byteAt_lt s k
      have hst : strOf (strs tb) (Bt.byteAt s k) = (tailB s k).take 1 := by rw [h1]; simp [strOf, hb1]
      have H1 := Lib.hid hst
      clear hst h1
      go_wp2_with fail
      go_loopg [7] (s.size - (k + 1)) (fun g mv wr2 => ∃ m : Nat, g + m = s.size - k ∧ mv = .int .i64 m ∧ 1 ≤ m ∧ k + m ≤ s.size ∧ ∃ row, okCode tb.length row ∧ strOf (strs tb) row = (tailB s k).take m ∧ ext tb row (tailB s (k + m)) = (er, el) ∧ wr2 = wo)
      case atStart => exact ⟨1, by omega, rfl, by omega, by omega, Bt.byteAt s k, .inl hb1, H1.out, HE.out, HWO.out.symm⟩
      case round =>
        obtain ⟨m, hm, rfl, hm1, hkm, row, hok, hstr, hext, hw2⟩ := hrel
        have hw3 := hw2.trans HWO.out
        subst hw3
        clear hw2
        by_cases hlt : k + m < s.size
        · have hex1 := extract_txt s k (m + 1) (by omega)
          rw [tail_take s k m hlt, ← hstr] at hex1
          rw [tailB_cons s (k + m) hlt] at hext
          have hfl := fnd_look tb HW.out HND.out row (Bt.byteAt s (k + m)) hok
          have hbm := Bt.byteAt_lt s (k + m)
          have hx := (strOf_bound tb HW.out row hok).2.2
          have hxs : ∀ c ∈ strOf (strs tb) row ++ [Bt.byteAt s (k + m)], c < 256 := fun c hc => by
            rcases List.mem_append.1 hc with hc | hc
            · exact hx c hc
            · rw [List.mem_singleton.1 hc]; exact hbm
          have HX := Lib.hid hxs
          have HEX := Lib.hid hex1
          have HST := Lib.hid hstr
          have HOK := Lib.hid hok
          clear hx hxs hex1 hstr hok
          have hfind := find_at (.slice ar (strs tb).length capr) (strs tb) (s.extract k (k + (m + 1))) _ wr HEX.out (strs_mem tb HW.out) HX.out (by have := HL.out; omega) hownr
          rw [show k + (m + 1) = k + m + 1 by omega] at hfind
          cases hl : look tb (row, Bt.byteAt s (k + m)) with
          | some c2 =>
            rw [hl] at hfl
            simp only at hfl
            rw [hfl] at hfind
            unfold ext at hext
            simp only [hl] at hext
            obtain ⟨l1, l2⟩ := look_str HW.out hl
            have hge := look_ge hl
            have HXT := Lib.hid hext
            have HL2 := Lib.hid l2
            have HL1 := Lib.hid l1
            clear hfl hl hext l1 l2
            go_wp2_with fail
            refine hfind.mono ?_; clear hfind; rintro e w4 ⟨rfl, rfl⟩
            go_wp2_with fail
            go_roundg (s.size - k - (m + 1))
            case measure => omega
            case rel => exact ⟨m + 1, by omega, by go_num, by omega, by omega, c2, HL1.out, by rw [HL2.out, HST.out, tail_take s k m hlt], HXT.out, HWO.out.symm⟩
          | none =>
            rw [hl] at hfl
            simp only at hfl
            rw [hfl] at hfind
            unfold ext at hext
            simp only [hl] at hext
            obtain ⟨rfl, rfl⟩ := Prod.mk.inj hext
            have HLN := Lib.hid hl
            clear hfl hl hext
            go_wp2_with fail
            refine hfind.mono ?_; clear hfind; rintro e w4 ⟨rfl, rfl⟩
            have hfc := find_at (.slice ar (strs tb).length capr) (strs tb) (s.extract k (k + m)) (strOf (strs tb) row) wr (by rw [extract_txt s k m (by omega), ← HST.out]) (strs_mem tb HW.out) (strOf_bound tb HW.out row HOK.out).2.2 (by have := HL.out; omega) hownr
            rw [fnd_code tb HW.out HND.out row HOK.out] at hfc
            have hex2 : s.extract k (k + m + 1) = Bt.txt (strOf (strs tb) row ++ [Bt.byteAt s (k + m)]) := HEX.out
            have HEX2 := Lib.hid hex2
            clear hex2
            go_wp2_with fail
            refine hfc.mono ?_; clear hfc; rintro e w6 ⟨rfl, rfl⟩
            by_cases hfull : 3836 ≤ q
            · have hfe : q + 257 + 1 = 4094 := by omega
              have HFE := Lib.hid hfe
              clear hfe
              go_wp2_with (first | (at_builtin; refine wpList_append_lies _ rfl _ _ 23 rfl 0 3 i0 _ 1 8 Try.underlying23 hif hz0 hz1 hz2 rfl (by decide) (.slice ao o.length capo) o.length (o.map iv) rfl (World.ownsRow.alloc hown _) ⟨wr.heap.size, 0, none⟩ 1 1 [iv row] rfl rfl (cell_one_new _ _ _) (by simp [iv, Value.oneCell']) (by decide) (by unfold maxLen; omega) (by omega) (by omega) (wr.heap.size + 1) (by simp) ?_; intro g1 cap1 w2 hown1 hgrow1 hat1 hlt1; have P1 := push_local (cap := cap1) (n := o.length + 1) hgrow1 hat1; have S2 := HS.out.upd 1 (oSl 3 1 (.slice (some ⟨g1, 0, none⟩) (o.length + 1) cap1) (o ++ [row]).length ((o ++ [row]).map iv)) rfl P1.1 P1.2 (by rw [List.map_append, List.length_append]; exact hown1); have H2 := Lib.hid S2; clear S2 P1 hown1 hgrow1 hat1 hown; have hownr2 : w2.ownsRow 0 9 1 (.slice ar (strs tb).length capr) (strs tb).length ((strs tb).map sv) := H2.out.get 0 rfl) | (at_builtin; refine wpList_append_lies _ rfl _ _ 61 rfl 0 9 i1 _ 1 16 Try.underlying61 hif' hz0' hz1' hz2' rfl (by decide) (.slice ar (strs tb).length capr) (strs tb).length ((strs tb).map sv) rfl (World.ownsRow.alloc hownr2 _) ⟨w2.heap.size, 0, none⟩ 1 1 [.string (s.extract k (k + m + 1))] rfl rfl (cell_one_new _ _ _) (by simp [Value.oneCell']) (by decide) (by unfold maxLen; have := HL.out; omega) (by have := HL.out; omega) (by omega) (w2.heap.size + 1) (by simp) ?_; intro g2 cap2 w3 hown3 hgrow3 hat3 hlt3; have P3 := push_local (cap := cap2) (n := (strs tb).length + 1) hgrow3 hat3; have S3 := H2.out.upd 0 (oSs (.slice (some ⟨g2, 0, none⟩) ((strs tb).length + 1) cap2) (strs (tb ++ [(row, Bt.byteAt s (k + m))]))) rfl P3.1 P3.2 (show w3.ownsRow 0 9 1 _ _ _ by rw [strs_snoc_map, sv, ← HEX2.out, show (strs (tb ++ [(row, Bt.byteAt s (k + m))])).length = (strs tb).length + 1 by rw [strs_snoc, List.length_append]; rfl]; exact hown3); have H3 := Lib.hid S3; clear S3 P3 hown3 hgrow3 hat3 hownr2) | (at_builtin; refine wpList_append_lies _ rfl _ _ 23 rfl 0 3 i0 _ 1 8 Try.underlying23 hif hz0 hz1 hz2 rfl (by decide) (.slice (some ⟨g1, 0, none⟩) (o.length + 1) cap1) (o ++ [row]).length ((o ++ [row]).map iv) rfl (World.ownsRow.alloc (show w3.ownsRow 0 3 1 (.slice (some ⟨g1, 0, none⟩) (o.length + 1) cap1) (o ++ [row]).length ((o ++ [row]).map iv) from H3.out.get 1 rfl) _) ⟨w3.heap.size, 0, none⟩ 1 1 [iv 256] rfl rfl (cell_one_new _ _ _) (by simp [iv, Value.oneCell']) (by decide) (by unfold maxLen; simp; omega) (by simp; omega) (by omega) (w3.heap.size + 1) (by simp) ?_; intro g4 cap4 w5 hown5 hgrow5 hat5 hlt5; have P5 := push_local (cap := cap4) (n := (o ++ [row]).length + 1) hgrow5 hat5; have S5 := H3.out.upd 1 (oSl 3 1 (.slice (some ⟨g4, 0, none⟩) ((o ++ [row]).length + 1) cap4) ((o ++ [row]) ++ [256]).length (((o ++ [row]) ++ [256]).map iv)) rfl P5.1 P5.2 (by rw [List.map_append, List.length_append (bs := [256])]; exact hown5); have H5 := Lib.hid S5; clear S5 P5 hown5 hgrow5 hat5))
              have S6 := H5.out.upd 0 (oSs (.slice none 0 0) (strs [])) rfl (Ext.refl _ _) (by intro q hq; simp [oSs, oSl, Value.ownBlock] at hq) (World.ownsRow_nil _ _ _ _)
              go_roundg (s.size - (k + m))
              case measure => omega
              case rel =>
                refine ⟨k + m, by omega, by go_num, (o ++ [row]) ++ [256], [], 0, rfl, by omega, by simp, WF.nil, by simp, by simp; omega, ?_, by simpa using S6⟩
                have h := HC.out
                rw [tailB_cons s k hks, codesT_full _ _ _ _ _ _ HE.out HFE.out, ← tailB_cons s (k + m) hlt] at h
                rw [← h]; simp
            · have hfull2 : q < 3836 := by omega
              have hfe : q + 257 + 1 ≠ 4094 := by omega
              have HFE := Lib.hid hfe
              clear hfe hfull
              go_wp2_with (first | (at_builtin; refine wpList_append_lies _ rfl _ _ 23 rfl 0 3 i0 _ 1 8 Try.underlying23 hif hz0 hz1 hz2 rfl (by decide) (.slice ao o.length capo) o.length (o.map iv) rfl (World.ownsRow.alloc hown _) ⟨wr.heap.size, 0, none⟩ 1 1 [iv row] rfl rfl (cell_one_new _ _ _) (by simp [iv, Value.oneCell']) (by decide) (by unfold maxLen; omega) (by omega) (by omega) (wr.heap.size + 1) (by simp) ?_; intro g1 cap1 w2 hown1 hgrow1 hat1 hlt1; have P1 := push_local (cap := cap1) (n := o.length + 1) hgrow1 hat1; have S2 := HS.out.upd 1 (oSl 3 1 (.slice (some ⟨g1, 0, none⟩) (o.length + 1) cap1) (o ++ [row]).length ((o ++ [row]).map iv)) rfl P1.1 P1.2 (by rw [List.map_append, List.length_append]; exact hown1); have H2 := Lib.hid S2; clear S2 P1 hown1 hgrow1 hat1 hown; have hownr2 : w2.ownsRow 0 9 1 (.slice ar (strs tb).length capr) (strs tb).length ((strs tb).map sv) := H2.out.get 0 rfl) | (at_builtin; refine wpList_append_lies _ rfl _ _ 61 rfl 0 9 i1 _ 1 16 Try.underlying61 hif' hz0' hz1' hz2' rfl (by decide) (.slice ar (strs tb).length capr) (strs tb).length ((strs tb).map sv) rfl (World.ownsRow.alloc hownr2 _) ⟨w2.heap.size, 0, none⟩ 1 1 [.string (s.extract k (k + m + 1))] rfl rfl (cell_one_new _ _ _) (by simp [Value.oneCell']) (by decide) (by unfold maxLen; have := HL.out; omega) (by have := HL.out; omega) (by omega) (w2.heap.size + 1) (by simp) ?_; intro g2 cap2 w3 hown3 hgrow3 hat3 hlt3; have P3 := push_local (cap := cap2) (n := (strs tb).length + 1) hgrow3 hat3; have S3 := H2.out.upd 0 (oSs (.slice (some ⟨g2, 0, none⟩) ((strs tb).length + 1) cap2) (strs (tb ++ [(row, Bt.byteAt s (k + m))]))) rfl P3.1 P3.2 (show w3.ownsRow 0 9 1 _ _ _ by rw [strs_snoc_map, sv, ← HEX2.out, show (strs (tb ++ [(row, Bt.byteAt s (k + m))])).length = (strs tb).length + 1 by rw [strs_snoc, List.length_append]; rfl]; exact hown3); have H3 := Lib.hid S3; clear S3 P3 hown3 hgrow3 hat3 hownr2))
              go_roundg (s.size - (k + m))
              case measure => omega
              case rel =>
                have hn2 : (row, Bt.byteAt s (k + m)) ∉ tb := look_none.1 HLN.out
                refine ⟨k + m, by omega, by go_num, o ++ [row], tb ++ [(row, Bt.byteAt s (k + m))], q + 1, by go_num, by omega, by simp; omega, HW.out.snoc HOK.out hbm, List.nodup_append.2 ⟨HND.out, by simp, fun a ha b hb => by rw [List.mem_singleton.1 hb]; intro e; exact hn2 (e ▸ ha)⟩, by simp; omega, ?_, ?_⟩
                · have h := HC.out
                  rw [tailB_cons s k hks, codesT_more _ _ _ _ _ _ HE.out HFE.out, ← tailB_cons s (k + m) hlt] at h
                  rw [← h, show q + 1 + 257 = q + 257 + 1 by omega]; simp [grow, tailB_cons s (k + m) hlt]
                · rw [show (strs (tb ++ [(row, Bt.byteAt s (k + m))])) = strs (tb ++ [(row, Bt.byteAt s (k + m))]) from rfl]
                  simpa using H3.out
        · have ht := tailB_end s (k + m) (by omega)
          rw [ht] at hext
          simp only [ext] at hext
          obtain ⟨rfl, rfl⟩ := Prod.mk.inj hext
          have Ht := Lib.hid ht
          have HST := Lib.hid hstr
          have HOK := Lib.hid hok
          clear hext ht hstr hok
          have hfc := find_at (.slice ar (strs tb).length capr) (strs tb) (s.extract k (k + m)) (strOf (strs tb) row) wr (by rw [extract_txt s k m (by omega), ← HST.out]) (strs_mem tb HW.out) (strOf_bound tb HW.out row HOK.out).2.2 (by have := HL.out; omega) hownr
          rw [fnd_code tb HW.out HND.out row HOK.out] at hfc
          go_wp2_with fail
          refine hfc.mono ?_; clear hfc; rintro e w6 ⟨rfl, rfl⟩
          by_cases hfull : 3836 ≤ q
          · have hfe : q + 257 + 1 = 4094 := by omega
            have HFE := Lib.hid hfe
            clear hfe
            go_wp2_with (first | (at_builtin; refine wpList_append_lies _ rfl _ _ 23 rfl 0 3 i0 _ 1 8 Try.underlying23 hif hz0 hz1 hz2 rfl (by decide) (.slice ao o.length capo) o.length (o.map iv) rfl (World.ownsRow.alloc hown _) ⟨wr.heap.size, 0, none⟩ 1 1 [iv row] rfl rfl (cell_one_new _ _ _) (by simp [iv, Value.oneCell']) (by decide) (by unfold maxLen; omega) (by omega) (by omega) (wr.heap.size + 1) (by simp) ?_; intro g1 cap1 w2 hown1 hgrow1 hat1 hlt1; have P1 := push_local (cap := cap1) (n := o.length + 1) hgrow1 hat1; have S2 := HS.out.upd 1 (oSl 3 1 (.slice (some ⟨g1, 0, none⟩) (o.length + 1) cap1) (o ++ [row]).length ((o ++ [row]).map iv)) rfl P1.1 P1.2 (by rw [List.map_append, List.length_append]; exact hown1); have H2 := Lib.hid S2; clear S2 P1 hown1 hgrow1 hat1 hown; have hownr2 : w2.ownsRow 0 9 1 (.slice ar (strs tb).length capr) (strs tb).length ((strs tb).map sv) := H2.out.get 0 rfl) | (at_builtin; refine wpList_append_lies _ rfl _ _ 23 rfl 0 3 i0 _ 1 8 Try.underlying23 hif hz0 hz1 hz2 rfl (by decide) (.slice (some ⟨g1, 0, none⟩) (o.length + 1) cap1) (o ++ [row]).length ((o ++ [row]).map iv) rfl (World.ownsRow.alloc (show w2.ownsRow 0 3 1 (.slice (some ⟨g1, 0, none⟩) (o.length + 1) cap1) (o ++ [row]).length ((o ++ [row]).map iv) from H2.out.get 1 rfl) _) ⟨w2.heap.size, 0, none⟩ 1 1 [iv 256] rfl rfl (cell_one_new _ _ _) (by simp [iv, Value.oneCell']) (by decide) (by unfold maxLen; simp; omega) (by simp; omega) (by omega) (w2.heap.size + 1) (by simp) ?_; intro g4 cap4 w5 hown5 hgrow5 hat5 hlt5; have P5 := push_local (cap := cap4) (n := (o ++ [row]).length + 1) hgrow5 hat5; have S5 := H2.out.upd 1 (oSl 3 1 (.slice (some ⟨g4, 0, none⟩) ((o ++ [row]).length + 1) cap4) ((o ++ [row]) ++ [256]).length (((o ++ [row]) ++ [256]).map iv)) rfl P5.1 P5.2 (by rw [List.map_append, List.length_append (bs := [256])]; exact hown5); have H5 := Lib.hid S5; clear S5 P5 hown5 hgrow5 hat5))
            have S6 := H5.out.upd 0 (oSs (.slice none 0 0) (strs [])) rfl (Ext.refl _ _) (by intro q hq; simp [oSs, oSl, Value.ownBlock] at hq) (World.ownsRow_nil _ _ _ _)
            go_roundg (s.size - (k + m))
            case measure => omega
            case rel =>
              refine ⟨k + m, by omega, by go_num, (o ++ [row]) ++ [256], [], 0, rfl, by omega, by simp, WF.nil, by simp, by simp; omega, ?_, by simpa using S6⟩
              have h := HC.out
              rw [tailB_cons s k hks, codesT_full _ _ _ _ _ _ HE.out HFE.out] at h
              rw [← h, Ht.out]; simp
          · have hfull2 : q < 3836 := by omega
            have hfe : q + 257 + 1 ≠ 4094 := by omega
            have HFE := Lib.hid hfe
            clear hfe hfull
            go_wp2_with (first | (at_builtin; refine wpList_append_lies _ rfl _ _ 23 rfl 0 3 i0 _ 1 8 Try.underlying23 hif hz0 hz1 hz2 rfl (by decide) (.slice ao o.length capo) o.length (o.map iv) rfl (World.ownsRow.alloc hown _) ⟨wr.heap.size, 0, none⟩ 1 1 [iv row] rfl rfl (cell_one_new _ _ _) (by simp [iv, Value.oneCell']) (by decide) (by unfold maxLen; omega) (by omega) (by omega) (wr.heap.size + 1) (by simp) ?_; intro g1 cap1 w2 hown1 hgrow1 hat1 hlt1; have P1 := push_local (cap := cap1) (n := o.length + 1) hgrow1 hat1; have S2 := HS.out.upd 1 (oSl 3 1 (.slice (some ⟨g1, 0, none⟩) (o.length + 1) cap1) (o ++ [row]).length ((o ++ [row]).map iv)) rfl P1.1 P1.2 (by rw [List.map_append, List.length_append]; exact hown1); have H2 := Lib.hid S2; clear S2 P1 hown1 hgrow1 hat1 hown; have hownr2 : w2.ownsRow 0 9 1 (.slice ar (strs tb).length capr) (strs tb).length ((strs tb).map sv) := H2.out.get 0 rfl))
            go_roundg (s.size - (k + m))
            case measure => omega
            case rel =>
              refine ⟨k + m, by omega, by go_num, o ++ [row], tb, q + 1, by go_num, by omega, by omega, HW.out, HND.out, by simp; omega, ?_, by simpa using H2.out⟩
              have h := HC.out
              rw [tailB_cons s k hks, codesT_more _ _ _ _ _ _ HE.out HFE.out] at h
              rw [← h, show q + 1 + 257 = q + 257 + 1 by omega, Ht.out]; simp [grow]
    · have ht := tailB_end s k (by omega)
      have hc := HC.out
      rw [ht, codesT_nil] at hc
      have HC2 := Lib.hid hc
      clear hc ht
      go_wp2_with (at_builtin; refine wpList_append_lies _ rfl _ _ 23 rfl 0 3 i0 _ 1 8 Try.underlying23 hif hz0 hz1 hz2 rfl (by decide) (.slice ao o.length capo) o.length (o.map iv) rfl (World.ownsRow.alloc hown _) ⟨wr.heap.size, 0, none⟩ 1 1 [iv 257] rfl rfl (cell_one_new _ _ _) (by simp [iv, Value.oneCell']) (by decide) (by unfold maxLen; omega) (by omega) (by omega) (wr.heap.size + 1) (by simp) ?_; intro g1 cap1 w2 hown1 hgrow1 hat1 hlt1)
      have P1 := push_local (cap := cap1) (n := o.length + 1) hgrow1 hat1
      have S4 := HS.out.upd 1 (oSl 3 1 (.slice (some ⟨g1, 0, none⟩) (o.length + 1) cap1) (o ++ [257]).length ((o ++ [257]).map iv)) rfl P1.1 P1.2 (by rw [List.map_append, List.length_append]; exact hown1)
      rw [HC2.out] at S4
      go_ret
      exact ⟨_, rfl, ⟨S4.ext, fun a ha => S4.each a (List.mem_cons_of_mem _ ha), fun a ha => S4.base a (List.mem_cons_of_mem _ ha), fun i j a b hi hj hij => S4.apart (i + 1) (j + 1) a b (by simpa using hi) (by simpa using hj) (by omega)⟩⟩
end Go.Proofs.Ytcbllkopolbhaaa.Lz
