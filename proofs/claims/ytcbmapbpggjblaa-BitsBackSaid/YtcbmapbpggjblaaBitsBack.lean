/-
  The walk of BitsBack: what was put is read, number by number, from either end; the bits behind are noughts.
-/
import Derived.Test.YtcbmapbpggjblaaBitsBackP
namespace Go.Proofs.Ytcbmapbpggjblaa.Bt
open Go.RowKit

set_option maxHeartbeats 8000000 in
theorem bitsBack_walk (hi : Bool) (u : Value) (w : World) (hu : ∃ n f, Acts w u n f) :
    Calls Try.prog 9 #[.bool hi, u] w fun e w' => e = .returned (.bool true) ∧ Ext [] w w' := by
  obtain ⟨n, f, hA⟩ := hu
  obtain ⟨⟨ao, cap, rfl, hc⟩, hr, hnm⟩ := hA
  obtain ⟨i0, hif, hz0, hz1, hz2⟩ := info_parts infoAct
  have HC := Lib.hid hc
  have HR := Lib.hid hr
  clear hc hr
  unfold maxLen at hnm
  by_cases h2 : n ≤ 300
  · have h2' : ¬ 300 < n := by omega
    go_enter Try.func9, Try.ntmps9
    go_wp2_with fail
    refine (lives_any w).mono ?_; rintro e w1 ⟨rfl, hx⟩
    have S := (Sep.start w).quiet hx
    clear hx
    go_wp2_with fail
    refine (sWnew hi S).mono ?_; clear S; rintro e w3 ⟨b1, rfl, S⟩
    have S2 := S.new (Ext.refl _ w3) (oSl 37 3 (.slice none 0 0) 0 (([] : List Act).flatMap actCells)) (World.ownsRow_nil _ _ _ _) (fun q hq => by simp [oSl, Value.ownBlock] at hq)
    clear S
    go_wp2_with fail
    go_loopg [6, 7] n (fun g dv i wr => ∃ k : Nat, g + k = n ∧ i = .int .i64 k ∧ ∃ F d, (∀ a ∈ d, a.good ∧ a.ok) ∧ d.length ≤ k ∧ (putAll hi d).length ≤ 32 * k ∧ Sep w wr [oSl 37 3 dv d.length (d.flatMap actCells), oW b1 F hi (putAll hi d)])
    case atStart => exact ⟨0, by omega, rfl, _, [], by simp, by simp, by simp [putAll], S2⟩
    case round =>
      clear S2
      obtain ⟨k, hk, rfl, F, d, hG, hdl, hl, S⟩ := hrel
      by_cases hkn : k < n
      · obtain ⟨b, off, rfl, hcell⟩ := HC.out (by omega)
        obtain ⟨c0, c1, c2⟩ := hcell k hkn
        have hok := HR.out k hkn
        obtain ⟨hn0, hn1, hv⟩ := HR.out k hkn
        clear hcell
        have d0 := Ext.cell S.ext c0
        have d1 := Ext.cell S.ext c1
        have d2 := Ext.cell S.ext c2
        generalize f k = a at *
        clear c0 c1 c2
        have Hok := Lib.hid hok
        clear hok
        obtain ⟨al, m, v⟩ := a
        simp only at d0 d1 d2 hn0 hn1 hv
        cases al
        · have S := S.new ((Ext.refl _ wr).alloc _) (Ob.one wr.heap.size (.cells #[.bool false, .int .i64 m, .int .u32 v] 37 (0, 0))) (heap_alloc_at _) (fun k hk => by rw [List.mem_singleton.1 hk]; exact Nat.le_refl _)
          go_wp2_with fail
          clear d0 d1 d2
          generalize wr.alloc (.cells #[.bool false, .int .i64 m, .int .u32 v] 37 (0, 0)) = wr2 at *
          generalize wr.heap.size = ba at *
          refine (sPutAny 2 S rfl (by omega) hv).mono ?_; clear S; rintro e w5 ⟨rfl, F3, S⟩
          change Sep w w5 [Ob.one ba (.cells #[.bool false, .int .i64 m, .int .u32 v] 37 (0, 0)), oSl 37 3 u6 d.length (d.flatMap actCells), oW b1 F3 hi (pL hi (putAll hi d) v m)] at S
          by_cases hb : pBad v m
          · have hE : pE v m = 2 := if_pos hb
            have hP : pL hi (putAll hi d) v m = putAll hi d := if_pos hb
            rw [hP] at S
            have S := sepTail S
            rw [hE]
            clear hE hP hb
            go_wp2_with fail
            go_roundg (n - (k + 1))
            case measure => omega
            case rel => exact ⟨k + 1, by omega, by go_num, F3, d, hG, by omega, by omega, S⟩
          · have hE : pE v m = 0 := if_neg hb
            have hP : pL hi (putAll hi d) v m = putAll hi (d ++ [⟨false, m, v⟩]) := by rw [putAll_snoc]; unfold stepL pL; rw [if_neg hb]; rfl
            have hgood : Act.good ⟨false, m, v⟩ := .inr hb
            have hlen := stepL_len hi (putAll hi d) ⟨false, m, v⟩ hgood
            rw [← putAll_snoc] at hlen
            rw [hP] at S
            rw [hE]
            clear hE hP hb
            have ha := S.get 0 rfl
            have a0 : w5.cell? ⟨ba, 0, none⟩ = some (.bool false) := cellOf ha 0
            have a1 : w5.cell? ⟨ba, 1, none⟩ = some (.int .i64 m) := cellOf ha 1
            have a2 : w5.cell? ⟨ba, 2, none⟩ = some (.int .u32 v) := cellOf ha 2
            have hown := S.get 1 rfl
            clear ha
            go_wp2_with (first | (at_builtin; refine wpList_append_lies _ rfl _ _ 33 rfl 0 37 i0 _ 3 24 Try.underlying33 hif hz0 hz1 hz2 rfl (by decide) u6 d.length _ rfl (World.ownsRow.alloc hown _) ⟨w5.heap.size, 0, none⟩ 1 1 (actCells ⟨false, m, v⟩) rfl rfl (cells_new w5 _ _ _) (by simp [actCells, Value.oneCell']) (by decide) (by unfold maxLen; omega) (by omega) (by omega) (w5.heap.size + 1) (by simp) ?_; intro g cap2 w6 hown1 hgrow hat hlt))
            go_roundg (n - (k + 1))
            case measure => omega
            case rel =>
              have P := push_local (cap := cap2) (n := d.length + 1) hgrow hat
              have Q := (sepTail S).upd 0 (oSl 37 3 (.slice (some ⟨g, 0, none⟩) (d.length + 1) cap2) (d.length + 1) ((d ++ [Act.mk false m v]).flatMap actCells)) rfl P.1 P.2 (by rw [List.flatMap_append]; have hown2 := hown1; simpa [oSl] using hown2)
              refine ⟨k + 1, by omega, by go_num, F3, d ++ [Act.mk false m v], ?_, by simp; omega, by omega, by simpa using Q⟩
              intro a' ha'
              rcases List.mem_append.1 ha' with h | h
              · exact hG a' h
              · rw [List.mem_singleton.1 h]; exact ⟨hgood, Hok.out⟩
        · have S := S.new ((Ext.refl _ wr).alloc _) (Ob.one wr.heap.size (.cells #[.bool true, .int .i64 m, .int .u32 v] 37 (0, 0))) (heap_alloc_at _) (fun k hk => by rw [List.mem_singleton.1 hk]; exact Nat.le_refl _)
          go_wp2_with fail
          clear d0 d1 d2
          generalize wr.alloc (.cells #[.bool true, .int .i64 m, .int .u32 v] 37 (0, 0)) = wr2 at *
          generalize wr.heap.size = ba at *
          refine (sWAlign 2 S rfl (by omega)).mono ?_; clear S; rintro e w5 ⟨rfl, S⟩
          obtain ⟨F3, hF3⟩ : ∃ F3, F3 = F := ⟨_, rfl⟩
          subst hF3
          change Sep w w5 [Ob.one ba (.cells #[.bool true, .int .i64 m, .int .u32 v] 37 (0, 0)), oSl 37 3 u6 d.length (d.flatMap actCells), oW b1 F3 hi (stepL hi (putAll hi d) ⟨true, m, v⟩)] at S
          have hgood : Act.good ⟨true, m, v⟩ := .inl rfl
          have hlen := stepL_len hi (putAll hi d) ⟨true, m, v⟩ hgood
          rw [← putAll_snoc] at hlen S
          have ha := S.get 0 rfl
          have a0 : w5.cell? ⟨ba, 0, none⟩ = some (.bool true) := cellOf ha 0
          have a1 : w5.cell? ⟨ba, 1, none⟩ = some (.int .i64 m) := cellOf ha 1
          have a2 : w5.cell? ⟨ba, 2, none⟩ = some (.int .u32 v) := cellOf ha 2
          have hown := S.get 1 rfl
          clear ha
          go_wp2_with (first | (at_builtin; refine wpList_append_lies _ rfl _ _ 33 rfl 0 37 i0 _ 3 24 Try.underlying33 hif hz0 hz1 hz2 rfl (by decide) u6 d.length _ rfl (World.ownsRow.alloc hown _) ⟨w5.heap.size, 0, none⟩ 1 1 (actCells ⟨true, m, v⟩) rfl rfl (cells_new w5 _ _ _) (by simp [actCells, Value.oneCell']) (by decide) (by unfold maxLen; omega) (by omega) (by omega) (w5.heap.size + 1) (by simp) ?_; intro g cap2 w6 hown1 hgrow hat hlt))
          go_roundg (n - (k + 1))
          case measure => omega
          case rel =>
            have P := push_local (cap := cap2) (n := d.length + 1) hgrow hat
            have Q := (sepTail S).upd 0 (oSl 37 3 (.slice (some ⟨g, 0, none⟩) (d.length + 1) cap2) (d.length + 1) ((d ++ [Act.mk true m v]).flatMap actCells)) rfl P.1 P.2 (by rw [List.flatMap_append]; have hown2 := hown1; simpa [oSl] using hown2)
            refine ⟨k + 1, by omega, by go_num, F3, d ++ [Act.mk true m v], ?_, by simp; omega, by omega, by simpa using Q⟩
            intro a' ha'
            rcases List.mem_append.1 ha' with h | h
            · exact hG a' h
            · rw [List.mem_singleton.1 h]; exact ⟨hgood, Hok.out⟩
      · have hs : (txt (packB hi (putAll hi d))).size = ((putAll hi d).length + 7) / 8 := by rw [txt_size, packB_length]
        have hB := putAll_bin hi d [] (fun x hx => by cases hx)
        change Bin (putAll hi d) at hB
        have hL : (putAll hi d).length ≤ 9600 := by omega
        have hD : d.length ≤ 300 := by omega
        have hown := S.get 0 rfl
        have hdv : ∃ ao2 cap2, u6 = .slice ao2 d.length cap2 := by
          rcases (show wr.ownsRow 0 37 3 u6 d.length (d.flatMap actCells) from hown).2 with ⟨h00, h01⟩ | ⟨g, cap, cur, h00, _, _, _, _, _⟩
          · exact ⟨none, 0, by rw [h00, h01]⟩
          · exact ⟨_, cap, h00⟩
        obtain ⟨ao2, cap2, rfl⟩ := hdv
        clear hown hl hdl hk
        go_wp2_with fail
        refine (sText 1 S rfl).mono ?_; rintro e w6 ⟨rfl, rfl⟩
        have hp := pos_le hi d d.length _ hs
        have hpl : pos hi d d.length = (putAll hi d).length := by unfold pos; rw [List.take_length]
        have hz := fun q h => getv_behind hi (putAll hi d) q hB h
        have HZ := Lib.hid hz
        clear hz
        obtain ⟨s, hsd⟩ : ∃ s, s = txt (packB hi (putAll hi d)) := ⟨_, rfl⟩
        rw [← hsd] at hs hp HZ
        rw [← hsd]
        have hsl : (s.size : Int) = (((putAll hi d).length : Int) + 7) / 8 := by omega
        have HSD := Lib.hid hsd
        clear hsd
        go_wp2_with fail
        refine (sLen 1 S rfl).mono ?_; rintro e w7 ⟨rfl, rfl⟩
        go_wp2_with fail
        refine (sRnew s hi S).mono ?_; clear S; rintro e w8 ⟨b2, rfl, S⟩
        go_wp2_with fail
        go_loopg [11] d.length (fun g i wq => ∃ j : Nat, g + j = d.length ∧ i = .int .i64 j ∧ Sep w wq [oR b2 s (pos hi d j) hi, oSl 37 3 (.slice ao2 d.length cap2) d.length (d.flatMap actCells), oW b1 F hi (putAll hi d)])
        case atStart => exact ⟨0, by omega, rfl, S⟩
        case round =>
          clear S
          obtain ⟨j, hj, rfl, S⟩ := hrel
          by_cases hjd : j < d.length
          · have hown := S.get 1 rfl
            obtain ⟨g0, cap1, hao, _, _⟩ := World.ownsRow.form hown (by omega)
            simp only [Value.slice.injEq, true_and] at hao
            obtain ⟨rfl, rfl⟩ := hao
            have q0 := ownsActs_at (S.get 1 rfl) j 0 hjd (by omega)
            have q1 := ownsActs_at (S.get 1 rfl) j 1 hjd (by omega)
            have hgd := (hG d[j] (List.getElem_mem hjd))
            have hp1 := pos_le hi d j s hs
            have hp2 := pos_le hi d (j + 1) s hs
            cases hal : d[j].al
            · obtain ⟨m, hm, hm32, hpm, hgv⟩ := back_get hi d j hjd s HSD.out hgd.1 hal
              simp only [actCells, hal, hm] at q0 q1
              simp only [List.getElem?_cons_zero, List.getElem?_cons_succ, Nat.add_zero] at q0 q1
              have hvl := hgd.2.2.2
              go_wp2_with fail
              refine (sGet (n := m) 0 S rfl (by omega) (by omega) (by omega)).mono ?_; clear S; rintro e w5 ⟨rfl, S⟩
              rw [hgv]
              rw [← hpm] at S
              have q2 := ownsActs_at (S.get 1 rfl) j 2 hjd (by omega)
              simp only [actCells] at q2
              simp only [List.getElem?_cons_zero, List.getElem?_cons_succ] at q2
              clear q0 q1 hpm hgv hm
              generalize d[j].v = dv at *
              go_wp2_with fail
              go_roundg (d.length - (j + 1))
              case measure => omega
              case rel => exact ⟨j + 1, by omega, by go_num, S⟩
            · have hpa := back_align hi d j hjd hal
              simp only [actCells, hal] at q0 q1
              simp only [List.getElem?_cons_zero, List.getElem?_cons_succ, Nat.add_zero] at q0 q1
              go_wp2_with fail
              refine (sAlign 0 S rfl (by omega) (by omega)).mono ?_; clear S; rintro e w5 ⟨rfl, S⟩
              rw [← hpa] at S
              clear hpa q0 q1
              go_wp2_with fail
              go_roundg (d.length - (j + 1))
              case measure => omega
              case rel => exact ⟨j + 1, by omega, by go_num, S⟩
          · obtain rfl : j = d.length := by omega
            rw [hpl] at S hp
            go_wp2_with fail
            refine (sLeft 0 S rfl (by omega) hp).mono ?_; clear S; rintro e w5 ⟨rfl, S⟩
            obtain ⟨q, hq⟩ : ∃ q : Nat, (putAll hi d).length + q = 8 * s.size := ⟨8 * s.size - (putAll hi d).length, by omega⟩
            have hq2 : 8 * (s.size : Int) - ((putAll hi d).length : Int) = (q : Int) := by omega
            have hq8 : q < 8 := by omega
            have hgz := HZ.out q (by omega)
            rw [hq2]
            go_wp2_with fail
            refine (sGet (n := q) 0 S rfl (by omega) (by omega) (by omega)).mono ?_; clear S; rintro e w6 ⟨rfl, S⟩
            rw [hgz]
            rw [hq] at S
            clear hgz hq2
            go_wp2_with fail
            have h8 : ((8 * s.size : Nat) : Int) = 8 * (s.size : Int) := by omega
            have hd8 : decide ((q : Int) < 8) = true := by simp; omega
            refine (sAt 0 S rfl).mono ?_; clear S; rintro e w7 ⟨rfl, S⟩
            rw [h8]
            have HX := Lib.hid S.ext
            clear S h8
            go_wp2_with fail
            go_ret
            exact ⟨rfl, HX.out⟩
  · have h2' : 300 < n := by omega
    go_enter Try.func9, Try.ntmps9
    go_wp2_with fail
    refine (lives_any w).mono ?_; rintro e w1 ⟨rfl, hx⟩
    go_wp2_with fail
    go_ret
    exact ⟨rfl, hx⟩
end Go.Proofs.Ytcbmapbpggjblaa.Bt
