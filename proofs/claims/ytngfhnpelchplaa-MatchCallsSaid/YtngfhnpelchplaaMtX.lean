/-
  The document's answer (pagemenderref09): Expand walked.
-/
import Derived.Test.YtngfhnpelchplaaMtW
namespace Go.Proofs.Ytngfhnpelchplaa.Mt
open Go.RowKit

set_option maxRecDepth 100000 in
set_option maxHeartbeats 8000000 in
theorem rExpand_walk (v : Value) (l : List Pc) (b : Int) (w : World) (hv : PcAt w v l) (hl : l.length ≤ 1048576) :
    Calls Try.prog 20 #[v, .int .i64 b] w fun e w' => e = .returned (.tuple #[.string ⟨(expN l b).1.toArray⟩, .int .i64 (expN l b).2]) ∧ Ext [] w w' := by
  have HI := Lib.hid (rCheck_walk v l w hv hl)
  by_cases h0 : chkN l = 0
  · have HV := Lib.hid hv
    have hz : sizN l = sumL l 0 := by unfold sizN; rw [if_pos h0]
    obtain ⟨hb, hc0⟩ := chk_zero h0
    have hle := sum_le l 0 hb (Int.le_refl 0)
    obtain ⟨N, hN⟩ : ∃ N : Nat, sumL l 0 = N := ⟨(sumL l 0).toNat, by omega⟩
    rw [hN] at hz hle
    have hN9 : N ≤ 258 * l.length := by omega
    have hSz : ∀ w1, Ext [] w w1 → Calls Try.prog 24 #[v] w1 fun e w' => e = .returned (.int .i64 N) ∧ Ext [] w1 w' := fun w1 hx => by
      have h := rSize_walk v l w1 (hv.ext hx) hl
      rw [hz] at h
      exact h
    have HSz := Lib.hid hSz
    rw [h0] at HI
    clear hv hz hle hSz
    by_cases h1 : b < 0
    · have e : expN l b = ([], 2) := by unfold expN; rw [if_pos h0, if_pos h1]
      rw [e]
      clear e h0 hN hb hc0
      go_enter Try.func20, Try.ntmps20
      go_wp2_with fail
      refine HI.out.mono ?_
      rintro e w1 ⟨rfl, hx1⟩
      have HX1 := Lib.hid hx1
      clear hx1
      go_wp2_with fail
      go_ret2
      exact ⟨rfl, HX1.out⟩
    · have h1' : 0 ≤ b := by omega
      by_cases h2 : b < N
      · have e : expN l b = ([], 3) := by unfold expN; rw [if_pos h0, if_neg h1, hN, if_pos h2]
        rw [e]
        clear e h0 hN hb hc0
        go_enter Try.func20, Try.ntmps20
        go_wp2_with fail
        refine HI.out.mono ?_
        rintro e w1 ⟨rfl, hx1⟩
        have HX1 := Lib.hid hx1
        clear hx1
        go_wp2_with fail
        refine (HSz.out _ HX1.out).mono ?_
        rintro e w2 ⟨rfl, hx2⟩
        have HX2 := Lib.hid hx2
        clear hx2
        go_wp2_with fail
        go_ret2
        exact ⟨rfl, HX1.out.trans HX2.out⟩
      · have e : expN l b = (expL l [], 0) := by unfold expN; rw [if_pos h0, if_neg h1, hN, if_neg h2]
        rw [e]
        have h2' : (N : Int) ≤ b := by omega
        obtain ⟨R, hR⟩ : ∃ R, expL l [] = R := ⟨_, rfl⟩
        rw [hR]
        have HR := Lib.hid hR
        have HB := Lib.hid hb
        have HC0 := Lib.hid hc0
        obtain ⟨i0, hif, hz0, hz1, hz2⟩ := info_parts infoByte9
        clear e h0 hN hb hc0 hR
        go_enter Try.func20, Try.ntmps20
        go_wp2_with fail
        refine HI.out.mono ?_
        rintro e w1 ⟨rfl, hx1⟩
        have HX1 := Lib.hid hx1
        clear hx1
        go_wp2_with fail
        refine (HSz.out _ HX1.out).mono ?_
        rintro e w2 ⟨rfl, hx2⟩
        have HX2 := Lib.hid (HX1.out.trans hx2)
        clear hx2 HX1
        have S := ((Sep.start w).quiet HX2.out).new (Ext.refl _ _) (oSl 5 1 (.slice none 0 0) 0 []) (World.ownsRow_nil _ _ _ _) (fun q hq => by simp [oSl, Value.ownBlock] at hq)
        have HS := Lib.hid S
        clear S HX2
        obtain ⟨aov, capv, rfl, hcv⟩ := HV.out
        have HC := Lib.hid hcv
        clear HV hcv HI
        go_wp2_with fail
        go_loopg [7, 8] l.length (fun g ov iv wr => ∃ (k : Nat) (o : List UInt8) (ao : Option Addr) (cap : Nat), g + k = l.length ∧ iv = .int .i64 k ∧ ov = .slice ao o.length cap ∧ o.length ≤ 258 * k ∧ expL (l.drop k) o = R ∧ chkL (l.drop k) o.length = 0 ∧ Sep w wr [oSl 5 1 (.slice ao o.length cap) o.length (o.map u8v)])
        case atStart => exact ⟨0, [], none, 0, by omega, rfl, rfl, by simp, HR.out, HC0.out, HS.out⟩
        case round =>
          clear HS HR HC0
          obtain ⟨k, o, ao, cap, hk, rfl, rfl, hol, hR, hck, S⟩ := hrel
          by_cases hlt : k < l.length
          · obtain ⟨b, off, rfl, hcell⟩ := HC.out (by omega)
            obtain ⟨x, hxk⟩ : ∃ x, l[k]? = some x := ⟨_, List.getElem?_eq_getElem hlt⟩
            obtain ⟨c0, c1, c2⟩ := hcell k x hxk
            have d0 := Ext.cell S.ext c0
            have d1 := Ext.cell S.ext c1
            have hm : mayP x = true := by
              have h := HB.out
              unfold badN at h
              rw [List.any_eq_false] at h
              simpa using h x (List.mem_of_getElem? hxk)
            have hm := mayP_iff x hm
            rw [drop_at hxk, expL] at hR
            rw [drop_at hxk, chkL] at hck
            obtain ⟨xb, xl, xd⟩ := x
            simp only at c0 c1 c2 d0 d1 hm hR hck
            by_cases hd : (o.length : Int) < xd
            · rw [if_pos hd] at hck; omega
            rw [if_neg hd] at hck
            have CC := Lib.hid (⟨c1, c2⟩ : _ ∧ _)
            clear hcell c0 c1 c2 hxk
            rcases hm with ⟨rfl, rfl⟩ | ⟨rfl, hl3, hl4, hd3, hd4⟩
            · rw [if_pos rfl] at hR
              have HR := Lib.hid hR
              have HCK := Lib.hid hck
              have HS := Lib.hid S
              have hown : wr.ownsRow 0 5 1 (.slice ao o.length cap) o.length (o.map u8v) := S.get 0 rfl
              clear hR hd hck S
              go_wp2_with (at_builtin; refine wpList_append_lies _ rfl _ _ 50 rfl 0 5 i0 _ 1 1 Try.underlying50 hif hz0 hz1 hz2 rfl (by decide) (.slice ao o.length cap) o.length _ rfl (World.ownsRow.alloc hown _) ⟨wr.heap.size, 0, none⟩ 1 1 [u8v xb] rfl rfl (World.news_of_block (heap_alloc_at (w := wr) _)) (by simp [Value.oneCell']) (by decide) (by unfold maxLen; omega) (by omega) (by omega) (wr.heap.size + 1) (by simp) ?_; intro g2 cap3 w6 hown1 hgrow hat hlt6; clear d0 d1)
              have hS := (HS.out.upd 0 (oSl 5 1 (.slice (some ⟨g2, 0, none⟩) (o.length + 1) cap3) (o.length + 1) ((o ++ [xb]).map u8v)) rfl (push_local (cap := cap3) (n := o.length + 1) hgrow hat).1 (push_local (cap := cap3) (n := o.length + 1) hgrow hat).2 (by rw [List.map_append]; have hown2 := hown1; simpa [oSl] using hown2))
              have el : (o ++ [xb]).length = o.length + 1 := by simp
              obtain ⟨o1, ho1⟩ : ∃ o1, o ++ [xb] = o1 := ⟨_, rfl⟩
              have hck2 := HCK.out
              rw [show (o.length : Int) + max 1 0 = ((o ++ [xb]).length : Int) from by rw [el]; omega] at hck2
              have hR2 := HR.out
              rw [← el] at hS
              rw [ho1] at hS el hck2 hR2
              have HS := Lib.hid hS
              have HEL := Lib.hid el
              have HCK := Lib.hid hck2
              have HR := Lib.hid hR2
              have hol1 : o1.length ≤ 258 * (k + 1) := by omega
              clear hS hown1 hgrow hat hlt6 hown el ho1 hck2 hR2
              go_loopg [7, 9] 0 (fun gi ov2 jv wr2 => ∃ (j : Nat) (o2 : List UInt8) (ao2 : Option Addr) (cap2 : Nat), gi + j = 0 ∧ jv = .int .i64 j ∧ ov2 = .slice ao2 o2.length cap2 ∧ o2.length = o1.length + j ∧ expL (l.drop (k + 1)) (repF 0 gi o2) = R ∧ Sep w wr2 [oSl 5 1 (.slice ao2 o2.length cap2) o2.length (o2.map u8v)])
              case atStart => exact ⟨0, o1, some ⟨g2, 0, none⟩, cap3, by omega, rfl, by rw [HEL.out], by omega, HR.out, HS.out⟩
              case round =>
                clear HS HR
                obtain ⟨j, o2, ao2, cap2, hj, rfl, rfl, ho2, hR, S⟩ := hrel
                have HR := Lib.hid hR
                have d1 := Ext.cell S.ext CC.out.1
                have d2 := Ext.cell S.ext CC.out.2
                have HS := Lib.hid S
                have HO2 := Lib.hid ho2
                have ho3 : o2.length ≤ o1.length + j := by omega
                have ho4 : o1.length + j ≤ o2.length := by omega
                clear hR S ho2
                by_cases hjm : j < 0
                · omega
                · obtain rfl : j = 0 := by omega
                  obtain rfl : gk = 0 := by omega
                  go_wp2_with fail
                  go_roundg (l.length - (k + 1))
                  case measure => omega
                  case rel => exact ⟨k + 1, o2, ao2, cap2, by omega, by go_num, rfl, by omega, HR.out, by rw [HO2.out]; exact HCK.out, HS.out⟩
            · obtain ⟨m, rfl⟩ : ∃ m : Nat, xl = m := ⟨xl.toNat, by omega⟩
              obtain ⟨d, rfl⟩ : ∃ d : Nat, xd = d := ⟨xd.toNat, by omega⟩
              rw [if_neg (by omega), Int.toNat_natCast, Int.toNat_natCast] at hR
              rw [Int.max_eq_right (by omega)] at hck
              have HR := Lib.hid hR
              have HCK := Lib.hid hck
              have hd' : (d : Int) ≤ (o.length : Int) := by omega
              have hm0 : ((m : Int) == 0) = false := beq_eq_false_iff_ne.2 (by omega)
              have HS := Lib.hid S
              clear hR hd hck S
              go_wp2_with fail
              clear d0 d1
              go_loopg [7, 9] m (fun gi ov2 jv wr2 => ∃ (j : Nat) (o2 : List UInt8) (ao2 : Option Addr) (cap2 : Nat), gi + j = m ∧ jv = .int .i64 j ∧ ov2 = .slice ao2 o2.length cap2 ∧ o2.length = o.length + j ∧ expL (l.drop (k + 1)) (repF d gi o2) = R ∧ Sep w wr2 [oSl 5 1 (.slice ao2 o2.length cap2) o2.length (o2.map u8v)])
              case atStart => exact ⟨0, o, ao, cap, by omega, rfl, rfl, by omega, HR.out, HS.out⟩
              case round =>
                clear HS HR
                obtain ⟨j, o2, ao2, cap2, hj, rfl, rfl, ho2, hR, S⟩ := hrel
                have HR := Lib.hid hR
                have d1 := Ext.cell S.ext CC.out.1
                have d2 := Ext.cell S.ext CC.out.2
                have HS := Lib.hid S
                have HO2 := Lib.hid ho2
                have ho3 : o2.length ≤ o.length + j := by omega
                have ho4 : o.length + j ≤ o2.length := by omega
                clear hR S ho2
                by_cases hjm : j < m
                · obtain ⟨gi2, rfl⟩ : ∃ gi2, gk = gi2 + 1 := ⟨gk - 1, by omega⟩
                  have hown : wr.ownsRow 0 5 1 (.slice ao2 o2.length cap2) o2.length (o2.map u8v) := HS.out.get 0 rfl
                  have hge : d ≤ o2.length := by omega
                  obtain ⟨g, rfl⟩ : ∃ g, ao2 = some ⟨g, 0, none⟩ := by
                    rcases hown.2 with ⟨_, h⟩ | ⟨g, cap, cs, h, _⟩
                    · omega
                    · injection h with h _ _; exact ⟨g, h⟩
                  have hy : o2[o2.length - d]? = some (o2.getD (o2.length - d) 0) := by
                    rw [List.getD_eq_getElem?_getD, List.getElem?_eq_getElem (by omega)]; rfl
                  have hR := HR.out
                  rw [repF] at hR
                  obtain ⟨y, hyy⟩ : ∃ y, o2.getD (o2.length - d) 0 = y := ⟨_, rfl⟩
                  rw [hyy] at hy hR
                  have HR := Lib.hid hR
                  have y1 : wr.cell? ⟨g, o2.length - d, none⟩ = some (u8v y) := ownsRow_at hown (by rw [List.getElem?_map, hy]; rfl)
                  have q1 : (0 : Int) ≤ (o2.length : Int) - (d : Int) := by omega
                  have q2 : (o2.length : Int) - (d : Int) < (o2.length : Int) := by omega
                  have q3 : ((o2.length : Int) - (d : Int)).toNat = o2.length - d := by omega
                  clear hyy hy hR
                  go_wp2_with (at_builtin; refine wpList_append_lies _ rfl _ _ 50 rfl 0 5 i0 _ 1 1 Try.underlying50 hif hz0 hz1 hz2 rfl (by decide) (.slice (some ⟨g, 0, none⟩) o2.length cap2) o2.length _ rfl (World.ownsRow.alloc hown _) ⟨wr.heap.size, 0, none⟩ 1 1 [u8v y] rfl rfl (World.news_of_block (heap_alloc_at (w := wr) _)) (by simp [Value.oneCell']) (by decide) (by unfold maxLen; omega) (by omega) (by omega) (wr.heap.size + 1) (by simp) ?_; intro g2 cap3 w6 hown1 hgrow hat hlt6)
                  go_roundg gi2
                  case measure => omega
                  case rel =>
                    have P := push_local (cap := cap3) (n := o2.length + 1) hgrow hat
                    have Q := HS.out.upd 0 (oSl 5 1 (.slice (some ⟨g2, 0, none⟩) (o2.length + 1) cap3) (o2.length + 1) ((o2 ++ [y]).map u8v)) rfl P.1 P.2 (by rw [List.map_append]; have hown2 := hown1; simpa [oSl] using hown2)
                    have el : (o2 ++ [y]).length = o2.length + 1 := by simp
                    refine ⟨j + 1, o2 ++ [y], some ⟨g2, 0, none⟩, cap3, by omega, by go_num, by rw [el], by rw [el]; omega, HR.out, ?_⟩
                    rw [el]
                    exact Q
                · obtain rfl : j = m := by omega
                  obtain rfl : gk = 0 := by omega
                  go_wp2_with fail
                  go_roundg (l.length - (k + 1))
                  case measure => omega
                  case rel => exact ⟨k + 1, o2, ao2, cap2, by omega, by go_num, rfl, by omega, HR.out, by rw [HO2.out]; exact HCK.out, HS.out⟩
          · obtain rfl : k = l.length := by omega
            rw [List.drop_length] at hR
            have hR' : o = R := hR
            subst hR'
            have hown : wr.ownsRow 0 5 1 (.slice ao o.length cap) o.length (o.map u8v) := S.get 0 rfl
            have hct := run_text9 hown
            have HS := Lib.hid S
            clear hR S hck hown
            go_wp2_with fail
            go_ret2
            exact ⟨rfl, HS.out.ext⟩
  · have e : expN l b = ([], chkN l) := by unfold expN; rw [if_neg h0]
    rw [e]
    generalize chkN l = c at *
    have h0' : (c == 0) = false := beq_eq_false_iff_ne.2 h0
    have h0'' : (c != 0) = true := by simpa using h0
    clear e hv
    go_enter Try.func20, Try.ntmps20
    go_wp2_with fail
    refine HI.out.mono ?_
    rintro e w1 ⟨rfl, hx1⟩
    have HX1 := Lib.hid hx1
    clear hx1
    go_wp2_with fail
    go_ret2
    exact ⟨rfl, HX1.out⟩
end Go.Proofs.Ytngfhnpelchplaa.Mt
