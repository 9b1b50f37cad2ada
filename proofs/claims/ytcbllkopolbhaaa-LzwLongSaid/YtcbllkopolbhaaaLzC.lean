/-
  lzw.Codes walked: it tells what 'codes' tells, in a row of the call's own. (Written by wip/mklz.py.)
-/
import Derived.Test.YtcbllkopolbhaaaLzB
namespace Go.Proofs.Ytcbllkopolbhaaa.Lz
open Go.RowKit Go.Maps

def iv (n : Nat) : Value := .int .i64 n
theorem infoInt : (Try.prog.info? 3).map (fun i => (i.zero, i.size, i.bytes)) = some (some (.int .i64 0), 1, 8) := by kernel_rfl

set_option maxHeartbeats 8000000 in
theorem codes_walk (s : ByteArray) (w : World) (hs : s.size ≤ 1048576) :
    Calls Try.prog 10 #[.string s] w fun e w' => ∃ v, e = .returned v ∧ Sep w w' [oSl 3 1 v (codes (tailB s 0)).length ((codes (tailB s 0)).map iv)] := by
  obtain ⟨i0, hif, hz0, hz1, hz2⟩ := info_parts infoInt
  have hmm := @run_makeMap Try.prog
  have S0 := (Sep.start w).new ((Ext.refl _ w).alloc (.cells #[iv 256] 3 (0, 0))) (oSl 3 1 (.slice (some ⟨w.heap.size, 0, none⟩) 1 1) 1 [iv 256]) (row_one w (iv 256)) (fun q hq => by simp [oSl, Value.ownBlock] at hq; omega)
  have S1 := S0.new ((Ext.refl _ _).alloc (.map #[] 0)) (oMap _ []) (oMap_new _) (fun q hq => by rw [List.mem_singleton.1 hq]; exact Nat.le_refl _)
  have H1 := Lib.hid S1
  clear S0 S1
  go_enter Try.func10, Try.ntmps10
  go_wp2_with fail
  have hsz : (w.alloc (.cells #[iv 256] 3 (0, 0))).heap.size = w.heap.size + 1 := by simp
  rw [hsz] at H1
  go_loopg [3, 5, 6] s.size (fun g ov kn i wr => ∃ k : Nat, g + k = s.size ∧ i = .int .i64 k ∧ ∃ o tb, ∃ known : Nat, kn = .int .i64 known ∧ known < 4094 ∧ tb.length + 257 ≤ known ∧ o.length ≤ 2 * k + 1 ∧ o ++ codesT tb known (tailB s k) = codes (tailB s 0) ∧ Sep w wr [oMap (w.heap.size + 1) tb, oSl 3 1 ov o.length (o.map iv)])
  case atStart => exact ⟨0, by omega, rfl, [256], [], 257, rfl, by omega, by simp, by simp, rfl, H1.out⟩
  case round =>
    clear H1
    obtain ⟨k, hk, rfl, o, tb, known, rfl, hkn, htb, ho, hC, S⟩ := hrel
    have HC := Lib.hid hC
    clear hC
    have hown := S.get 1 rfl
    by_cases hks : k < s.size
    · have eb : ((s[k]'hks).toNat : Int) = (Bt.byteAt s k : Int) := by rw [Bt.byteAt_eq]
      have hbk := Bt.byteAt_lt s k
      obtain ⟨er, el, hE⟩ : ∃ er el, ext tb (Bt.byteAt s k) (tailB s (k + 1)) = (er, el) := ⟨_, _, rfl⟩
      have HE := Lib.hid hE
      clear hE
      obtain ⟨D, hD, hT⟩ := S.get 0 rfl
      have HS := Lib.hid S
      clear S
      obtain ⟨wo, hwo⟩ : ∃ wo : World, wo = wr := ⟨wr, rfl⟩
      have HW := Lib.hid hwo
      clear hwo
      go_wp2_with fail
      go_loopg [6, 7] (s.size - (k + 1)) (fun g i rv wr2 => ∃ k2 : Nat, g + k2 = s.size ∧ i = .int .i64 k2 ∧ k + 1 ≤ k2 ∧ ∃ row : Nat, rv = .int .i64 row ∧ row < 2 ^ 40 ∧ ext tb row (tailB s k2) = (er, el) ∧ wr2 = wo)
      case atStart => exact ⟨k + 1, by omega, by go_num, Nat.le_refl _, Bt.byteAt s k, rfl, by omega, HE.out, HW.out.symm⟩
      case round =>
        obtain ⟨k2, hk2, rfl, hkk, row, rfl, hrow, hext, hw2⟩ := hrel
        have hw3 := hw2.trans HW.out
        subst hw3
        clear hw2 eb
        by_cases hks2 : k2 < s.size
        · have eb : ((s[k2]'hks2).toNat : Int) = (Bt.byteAt s k2 : Int) := by rw [Bt.byteAt_eq]
          have hb2 := Bt.byteAt_lt s k2
          rw [tailB_cons s k2 hks2] at hext
          have hh := (hT.2.2 row (Bt.byteAt s k2) (by omega) hb2).1
          have hat := (hT.2.2 row (Bt.byteAt s k2) (by omega) hb2).2
          unfold ext at hext
          cases hl : look tb (row, Bt.byteAt s k2) with
          | some m =>
            simp only [hl] at hext
            have hm := look_lt hl
            have hatm : ∀ c' : Int, D.atKey (ek row (Bt.byteAt s k2)) (.lit (.int .i64 0)) = .lit (.int .i64 c') → (m : Int) = c' := fun c' hc => by
              rw [hat, hl] at hc
              simpa using hc
            rw [hl] at hh
            have HH := Lib.hid hh
            have HX := Lib.hid hext
            clear hat hext hl hh
            go_wp2_with (at_lookup; refine wpList_lookup_own_ok_int _ rfl _ _ 38 rfl 41 3 .i64 law Try.underlying38 Try.underlying3 (zeroInt _) (w.heap.size + 1) tb.length D rfl hD (ev row (Bt.byteAt s k2)) (ek row (Bt.byteAt s k2)) rfl (ev_key _ _ (by omega) hb2) ?_; intro c' hat' hwc'; rw [HH.out]; obtain rfl := hatm c' hat'; clear hat')
            go_roundg (s.size - (k2 + 1))
            case measure => omega
            case rel => exact ⟨k2 + 1, by omega, by go_num, by omega, m, rfl, by omega, HX.out, HW.out.symm⟩
          | none =>
            simp only [hl] at hext
            obtain ⟨rfl, rfl⟩ := Prod.mk.inj hext
            rw [hl] at hh
            have HH := Lib.hid hh
            have HL := Lib.hid hl
            clear hat hext hl hh
            go_wp2_with (first | (at_lookup; refine wpList_lookup_own_ok_int _ rfl _ _ 38 rfl 41 3 .i64 law Try.underlying38 Try.underlying3 (zeroInt _) (w.heap.size + 1) tb.length D rfl hD (ev row (Bt.byteAt s k2)) (ek row (Bt.byteAt s k2)) rfl (ev_key _ _ (by omega) hb2) ?_; intro c' hat' hwc'; rw [HH.out]; clear hat') | (at_builtin; go_loud (refine wpList_append_lies _ rfl _ _ 23 rfl 0 3 i0 _ 1 8 Try.underlying23 hif hz0 hz1 hz2 rfl (by decide) u3 o.length _ rfl (World.ownsRow.alloc hown _) ⟨wr.heap.size, 0, none⟩ 1 1 [iv row] rfl rfl (cell_one_new _ _ _) (by simp [iv, Value.oneCell']) (by decide) (by unfold maxLen; omega) (by omega) (by omega) (wr.heap.size + 1) (by simp) ?_; intro g1 cap1 w2 hown1 hgrow1 hat1 hlt1)))
            have P1 := push_local (cap := cap1) (n := o.length + 1) hgrow1 hat1
            have S2 := HS.out.upd 1 (oSl 3 1 (.slice (some ⟨g1, 0, none⟩) (o.length + 1) cap1) (o ++ [row]).length ((o ++ [row]).map iv)) rfl P1.1 P1.2 (by rw [List.map_append, List.length_append]; exact hown1)
            have H2 := Lib.hid S2
            clear S2 P1 hown1 hgrow1 hat1 hown
            obtain ⟨D2, hD2, hT2⟩ := H2.out.get 0 rfl
            have hM : ∀ x : Ex w2, x.w.ownsMap Try.prog 41 RE (w.heap.size + 1) tb.length D2 := fun x => by
              obtain ⟨es, clock, hb, h⟩ := hD2
              exact ⟨es, clock, x.heap hb, h⟩
            have hlen : ∀ (x : Ex w2) (ty : TypeId), (Builtin.len_ #[38] ty #[.map (some (w.heap.size + 1))]).run Try.prog x.w = .ok (.int .i64 (tb.length : Int)) x.w := fun x ty => by
              rw [(hM x).len Try.underlying38 ty, hT2.1]
            have hsum : IntKind.i64.wrap (258 + (tb.length : Int)) = 258 + (tb.length : Int) := IntWalk.i64_in _ (by omega)
            refine wp_region_quiet_tail (C := fun w' => ∃ x : Ex w2, w' = x.w) 9 (by kernel_rfl) (by kernel_rfl) ⟨Ex.mk _ ((Ext.refl [] w2).drew), rfl⟩ ?_
            simp only [List.take_succ_cons, List.take_zero, List.drop_succ_cons, List.drop_zero]
            repeat (go_big_quiet_step (fail))
            refine wpQuiet_nil ?_
            rintro _ ⟨x, rfl⟩
            have hwf : (Lit.int .i64 (258 + (tb.length : Int))).wf = true := by simp [Lit.wf, IntKind.min, IntKind.max, IntKind.signed, IntKind.bits]; omega
            by_cases hfull : known + 1 = 4094
            · have hfi : decide ((known : Int) + 1 = 4094) = true := by simp; omega
              go_wp2_with (first | (at_mapUpdate; refine wpList_mapUpdate_own _ rfl _ _ _ 38 rfl 41 3 law Try.underlying38 RE (w.heap.size + 1) tb.length D2 rfl (hM x) (by unfold maxLen; omega) (ev row (Bt.byteAt s k2)) (.int .i64 (258 + (tb.length : Int))) (ek row (Bt.byteAt s k2)) rfl rfl (ev_key _ _ (by omega) hb2) _ [] (plainElem_int Try.underlying3 hwf) ?_; intro w4 hD4 hgrow4; have S4 := (H2.out.quiet x.ext).upd 0 (oMap (w.heap.size + 1) (tb ++ [(row, Bt.byteAt s k2)])) rfl (grown_ext hgrow4) (Fr.refl _ _) ⟨_, by simpa using hD4, by simpa using hT2.put (hD2.tidy law) (by omega) hb2 HL.out⟩; have hown4 := S4.get 1 rfl) | (at_builtin; refine wpList_append_lies _ rfl _ _ 23 rfl 0 3 i0 _ 1 8 Try.underlying23 hif hz0 hz1 hz2 rfl (by decide) (.slice (some ⟨g1, 0, none⟩) (o.length + 1) cap1) (o ++ [row]).length _ rfl (World.ownsRow.alloc hown4 _) ⟨w4.heap.size, 0, none⟩ 1 1 [iv 256] rfl rfl (cell_one_new _ _ _) (by simp [iv, Value.oneCell']) (by decide) (by unfold maxLen; simp; omega) (by simp; omega) (by omega) (w4.heap.size + 1) (by simp) ?_; intro g3 cap3 w5 hown5 hgrow5 hat5 hlt5; have P3 := push_local (cap := cap3) (n := (o ++ [row]).length + 1) hgrow5 hat5; have S5 := S4.upd 1 (oSl 3 1 (.slice (some ⟨g3, 0, none⟩) ((o ++ [row]).length + 1) cap3) ((o ++ [row]) ++ [256]).length (((o ++ [row]) ++ [256]).map iv)) rfl P3.1 P3.2 (by rw [List.map_append, List.length_append (bs := [256])]; exact hown5); obtain ⟨D5, hD5, hT5⟩ := S5.get 0 rfl; obtain ⟨w6, hrun6, hD6, hturn6⟩ := own_clear Try.underlying38 hD5))
              have S6 := S5.upd 0 (oMap (w.heap.size + 1) []) rfl (turned_ext hturn6) (Fr.refl _ _) ⟨_, hD6, TB.empty⟩
              go_roundg (s.size - k2)
              case measure => omega
              case rel =>
                refine ⟨k2, by omega, rfl, (o ++ [row]) ++ [256], [], 257, rfl, by omega, by simp, by simp; omega, ?_, by simpa using S6⟩
                have h := HC.out
                rw [tailB_cons s k hks, codesT_full _ _ _ _ _ _ HE.out hfull, ← tailB_cons s k2 hks2] at h
                rw [← h]; simp
            · have hfi : decide ((known : Int) + 1 = 4094) = false := by simp; omega
              go_wp2_with (at_mapUpdate; refine wpList_mapUpdate_own _ rfl _ _ _ 38 rfl 41 3 law Try.underlying38 RE (w.heap.size + 1) tb.length D2 rfl (hM x) (by unfold maxLen; omega) (ev row (Bt.byteAt s k2)) (.int .i64 (258 + (tb.length : Int))) (ek row (Bt.byteAt s k2)) rfl rfl (ev_key _ _ (by omega) hb2) _ [] (plainElem_int Try.underlying3 hwf) ?_; intro w4 hD4 hgrow4; have S4 := (H2.out.quiet x.ext).upd 0 (oMap (w.heap.size + 1) (tb ++ [(row, Bt.byteAt s k2)])) rfl (grown_ext hgrow4) (Fr.refl _ _) ⟨_, by simpa using hD4, by simpa using hT2.put (hD2.tidy law) (by omega) hb2 HL.out⟩; have hown4 := S4.get 1 rfl)
              go_roundg (s.size - k2)
              case measure => omega
              case rel =>
                refine ⟨k2, by omega, rfl, o ++ [row], tb ++ [(row, Bt.byteAt s k2)], known + 1, by go_num, by omega, by simp; omega, by simp; omega, ?_, S4⟩
                have h := HC.out
                rw [tailB_cons s k hks, codesT_more _ _ _ _ _ _ HE.out hfull, ← tailB_cons s k2 hks2] at h
                rw [← h]; simp [grow, tailB_cons s k2 hks2]
        · have ht := tailB_end s k2 (by omega)
          rw [ht] at hext
          simp only [ext] at hext
          obtain ⟨rfl, rfl⟩ := Prod.mk.inj hext
          have Ht := Lib.hid ht
          clear hext ht
          by_cases hfull : known + 1 = 4094
          · have hfi : decide ((known : Int) + 1 = 4094) = true := by simp; omega
            go_wp2_with (first | (at_builtin; refine wpList_append_lies _ rfl _ _ 23 rfl 0 3 i0 _ 1 8 Try.underlying23 hif hz0 hz1 hz2 rfl (by decide) (.slice (some ⟨g1, 0, none⟩) (o.length + 1) cap1) (o ++ [row]).length _ rfl (World.ownsRow.alloc hown4 _) ⟨w2.heap.size, 0, none⟩ 1 1 [iv 256] rfl rfl (cell_one_new _ _ _) (by simp [iv, Value.oneCell']) (by decide) (by unfold maxLen; simp; omega) (by simp; omega) (by omega) (w2.heap.size + 1) (by simp) ?_; intro g3 cap3 w5 hown5 hgrow5 hat5 hlt5; have P3 := push_local (cap := cap3) (n := (o ++ [row]).length + 1) hgrow5 hat5; have S5 := S4.upd 1 (oSl 3 1 (.slice (some ⟨g3, 0, none⟩) ((o ++ [row]).length + 1) cap3) ((o ++ [row]) ++ [256]).length (((o ++ [row]) ++ [256]).map iv)) rfl P3.1 P3.2 (by rw [List.map_append, List.length_append (bs := [256])]; exact hown5); obtain ⟨D5, hD5, hT5⟩ := S5.get 0 rfl; obtain ⟨w6, hrun6, hD6, hturn6⟩ := own_clear Try.underlying38 hD5) | (at_builtin; refine wpList_append_lies _ rfl _ _ 23 rfl 0 3 i0 _ 1 8 Try.underlying23 hif hz0 hz1 hz2 rfl (by decide) u3 o.length _ rfl (World.ownsRow.alloc hown _) ⟨wr.heap.size, 0, none⟩ 1 1 [iv row] rfl rfl (cell_one_new _ _ _) (by simp [iv, Value.oneCell']) (by decide) (by unfold maxLen; omega) (by omega) (by omega) (wr.heap.size + 1) (by simp) ?_; intro g1 cap1 w2 hown1 hgrow1 hat1 hlt1; have P1 := push_local (cap := cap1) (n := o.length + 1) hgrow1 hat1; have S4 := HS.out.upd 1 (oSl 3 1 (.slice (some ⟨g1, 0, none⟩) (o.length + 1) cap1) (o ++ [row]).length ((o ++ [row]).map iv)) rfl P1.1 P1.2 (by rw [List.map_append, List.length_append]; exact hown1); have hown4 := S4.get 1 rfl; clear hown1 hgrow1 hat1 hown))
            have S6 := S5.upd 0 (oMap (w.heap.size + 1) []) rfl (turned_ext hturn6) (Fr.refl _ _) ⟨_, hD6, TB.empty⟩
            go_roundg (s.size - k2)
            case measure => omega
            case rel =>
              refine ⟨k2, by omega, rfl, (o ++ [row]) ++ [256], [], 257, rfl, by omega, by simp, by simp; omega, ?_, by simpa using S6⟩
              have h := HC.out
              rw [tailB_cons s k hks, codesT_full _ _ _ _ _ _ HE.out hfull] at h
              rw [← h, Ht.out]; simp
          · have hfi : decide ((known : Int) + 1 = 4094) = false := by simp; omega
            go_wp2_with (at_builtin; refine wpList_append_lies _ rfl _ _ 23 rfl 0 3 i0 _ 1 8 Try.underlying23 hif hz0 hz1 hz2 rfl (by decide) u3 o.length _ rfl (World.ownsRow.alloc hown _) ⟨wr.heap.size, 0, none⟩ 1 1 [iv row] rfl rfl (cell_one_new _ _ _) (by simp [iv, Value.oneCell']) (by decide) (by unfold maxLen; omega) (by omega) (by omega) (wr.heap.size + 1) (by simp) ?_; intro g1 cap1 w2 hown1 hgrow1 hat1 hlt1; have P1 := push_local (cap := cap1) (n := o.length + 1) hgrow1 hat1; have S4 := HS.out.upd 1 (oSl 3 1 (.slice (some ⟨g1, 0, none⟩) (o.length + 1) cap1) (o ++ [row]).length ((o ++ [row]).map iv)) rfl P1.1 P1.2 (by rw [List.map_append, List.length_append]; exact hown1); have hown4 := S4.get 1 rfl; clear hown1 hgrow1 hat1 hown)
            go_roundg (s.size - k2)
            case measure => omega
            case rel =>
              refine ⟨k2, by omega, rfl, o ++ [row], tb, known + 1, by go_num, by omega, by omega, by simp; omega, ?_, S4⟩
              have h := HC.out
              rw [tailB_cons s k hks, codesT_more _ _ _ _ _ _ HE.out hfull] at h
              rw [← h, Ht.out]; simp [grow]
    · have ht := tailB_end s k (by omega)
      have hc := HC.out
      rw [ht, codesT_nil] at hc
      have HC2 := Lib.hid hc
      clear hc ht
      go_wp2_with (at_builtin; refine wpList_append_lies _ rfl _ _ 23 rfl 0 3 i0 _ 1 8 Try.underlying23 hif hz0 hz1 hz2 rfl (by decide) u3 o.length _ rfl (World.ownsRow.alloc hown _) ⟨wr.heap.size, 0, none⟩ 1 1 [iv 257] rfl rfl (cell_one_new _ _ _) (by simp [iv, Value.oneCell']) (by decide) (by unfold maxLen; omega) (by omega) (by omega) (wr.heap.size + 1) (by simp) ?_; intro g1 cap1 w2 hown1 hgrow1 hat1 hlt1)
      have P1 := push_local (cap := cap1) (n := o.length + 1) hgrow1 hat1
      have S4 := S.upd 1 (oSl 3 1 (.slice (some ⟨g1, 0, none⟩) (o.length + 1) cap1) (o ++ [257]).length ((o ++ [257]).map iv)) rfl P1.1 P1.2 (by rw [List.map_append, List.length_append]; exact hown1)
      rw [HC2.out] at S4
      go_ret
      exact ⟨_, rfl, ⟨S4.ext, fun a ha => S4.each a (List.mem_cons_of_mem _ ha), fun a ha => S4.base a (List.mem_cons_of_mem _ ha), fun i j a b hi hj hij => S4.apart (i + 1) (j + 1) a b (by simpa using hi) (by simpa using hj) (by omega)⟩⟩
end Go.Proofs.Ytcbllkopolbhaaa.Lz
