/-
  The document's Dict walked.
-/
import Derived.Test.YtgpgamohcafklaaGreatDoorTuB
import Derived.Test.YtgpgamohcafklaaGreatDoorTtB
import Derived.Test.YtgpgamohcafklaaGreatDoorTtD
namespace Go.Proofs.YtgpgamohcafklaaGreatDoor.Tr
open Go.RowKit

def ndC (O : List Nat) : List Value := O.map fun k => .int .i64 (k : Nat)
def oOrd (v : Value) (O : List Nat) : Ob := oSl 3 1 v O.length (ndC O)
theorem ndC_len (O : List Nat) : (ndC O).length = O.length := List.length_map _
/-- the tree's values, one by one -/
theorem trees_hd {w : World} {base : Option Addr} {ls : List (List Nd)} (h : TreesIn w base ls) : ∃ hd : Nat → Option Addr × Nat × Nat, ∀ k (_ : k < ls.length), ∃ b o, base = some ⟨b, o, none⟩ ∧ w.cell? ⟨b, o + k, none⟩ = some (slC (hd k)) ∧ NodesAt w (slC (hd k)) (ls.getD k []) := by
  have each : ∀ i, i < ls.length → ∃ q : Option Addr × Nat × Nat, ∃ b o, base = some ⟨b, o, none⟩ ∧ w.cell? ⟨b, o + i, none⟩ = some (slC q) ∧ NodesAt w (slC q) (ls.getD i []) := fun i hi => by
    obtain ⟨b, o, vk, h1, h2, h3⟩ := h i hi
    have hN := h3
    obtain ⟨xb, xc, rfl, -, -⟩ := h3
    refine ⟨(xb, (ls[i]'hi).length, xc), b, o, h1, h2, ?_⟩
    rw [List.getD_eq_getElem?_getD, List.getElem?_eq_getElem hi]
    exact hN
  obtain ⟨f, hf⟩ := Go.Deep.choose_lt each
  exact ⟨f, fun k hk => hf k hk⟩
theorem one_row {w : World} {e : TypeId} {u : Value} : (w.alloc (.cells #[u] e)).ownsRow 0 e 1 (.slice (some ⟨w.heap.size, 0, none⟩) 1 1) 1 [u] :=
  ⟨by simp, .inr ⟨w.heap.size, 1, #[u], rfl, Nat.zero_le _, heap_alloc_at _, Nat.le_refl _, by unfold maxLen; omega, by simp, by simp⟩⟩
def TwiceIs (c : Value) (A B : Prop) : Prop := (c = .bool true ∧ A) ∨ (c = .bool false ∧ B)
set_option maxRecDepth 100000 in
set_option maxHeartbeats 4000000 in
theorem dict17X_walk (u v : Value) (names : List ByteArray) (ls : List (List Nd)) (w : World) (hu : StrsAt w u names) (hv : TreesAt w v ls) (hn : names.length ≤ 32768) (hnl : ls.length ≤ 1048576) (hns : ∀ s ∈ names, s.size ≤ 1000000) (hls : light6 ls) :
    Calls Tryz.prog 12 #[u, v] w fun e w' => ∃ v2, e = .returned (.tuple #[v2, .int .i64 (dictionN names ls).2]) ∧ Ext [] w w' ∧ NodesAt w' v2 (dictionN names ls).1 := by
  obtain ⟨i0, hif, hz0, hz1, hz2⟩ := info_parts infoInt
  obtain ⟨j0, hjf, hy0, hy1, hy2⟩ := info_parts infoNodes
  obtain ⟨R, hR⟩ : ∃ R, dictionN names ls = R := ⟨_, rfl⟩
  rw [hR]
  rw [dictionN] at hR
  obtain ⟨ub, uc, rfl, -, hU⟩ := hu
  obtain ⟨vb, vc, rfl, -, hT⟩ := hv
  obtain ⟨n, hnn⟩ : ∃ n, names.length = n := ⟨_, rfl⟩
  obtain ⟨m, hm⟩ : ∃ m, ls.length = m := ⟨_, rfl⟩
  obtain ⟨BAD, hbad⟩ : ∃ BAD, names.any (fun s => decide (nameN s ≠ 0)) = BAD := ⟨_, rfl⟩
  obtain ⟨F, hF⟩ : ∃ F, firstN ls = F := ⟨_, rfl⟩
  obtain ⟨hd, hhd⟩ := trees_hd hT
  rw [hnn, hm, hbad, hF] at hR
  have hUK : ∀ k, k < names.length → ∃ b o, ub = some ⟨b, o, none⟩ ∧ w.cell? ⟨b, o + k, none⟩ = some (.string (nmK names k)) := fun k hk => by
    obtain ⟨b, o, h1, h2⟩ := hU k hk
    rw [← nmK_at hk] at h2
    exact ⟨b, o, h1, h2⟩
  have HH := Lib.hid (⟨hUK, hT, hnn, hm, hns, hls, hbad, hF, hhd⟩ : _ ∧ _ ∧ _ ∧ _ ∧ _ ∧ _ ∧ _ ∧ _ ∧ _)
  have HR := Lib.hid hR
  rw [hnn] at hn ⊢
  rw [hm] at hnl ⊢
  clear hU hUK hT hnn hm hns hls hbad hF hhd hR
  by_cases hnm : n = m
  case neg =>
    have hR := HR.out
    rw [if_pos (.inl hnm)] at hR
    subst hR
    have hb : ((n : Int) != (m : Int)) = true := bne_iff_ne.2 (by omega)
    go_enter Tryz.func12, Tryz.ntmps12
    go_wp2_with fail
    go_ret2
    exact ⟨_, rfl, Ext.refl _ _, none, 0, rfl, by simp, fun k hk => by cases hk⟩
  case pos =>
  subst hnm
  have hb : ((n : Int) != (n : Int)) = false := bne_self_eq_false _
  go_enter Tryz.func12, Tryz.ntmps12
  go_wp2_with fail
  go_loopg [6] n (fun g iv wr => ∃ i : Nat, g + i = n ∧ iv = .int .i64 i ∧ (names.drop i).any (fun s => decide (nameN s ≠ 0)) = BAD ∧ Ext [] w wr)
  case atStart => exact ⟨0, by omega, rfl, HH.out.2.2.2.2.2.2.1, Ext.refl _ _⟩
  case round =>
    obtain ⟨i, hgi, rfl, hB, hx⟩ := hrel
    by_cases hlt : i < n
    · obtain ⟨g, rfl⟩ : ∃ g, gk = g + 1 := ⟨gk - 1, by omega⟩
      have hltz : (i : Int) < (n : Int) := by omega
      have hil : i < names.length := by rw [HH.out.2.2.1]; exact hlt
      rw [drop_at names i hil, List.any_cons] at hB
      obtain ⟨b5, o5, rfl, c5⟩ := HH.out.1 i hil
      have c5 := hx.cell c5
      rw [nmK_at hil] at c5
      obtain ⟨nm, hnm⟩ : ∃ nm, names[i]'hil = nm := ⟨_, rfl⟩
      rw [hnm] at hB c5
      have HC := Lib.hid (name03_walk nm wr)
      have HX := Lib.hid (⟨hx, hB⟩ : _ ∧ _)
      clear hx hB hnm
      obtain ⟨e, he⟩ : ∃ e, nameN nm = e := ⟨_, rfl⟩
      rw [he] at HC HX
      clear he
      go_wp2_with fail
      refine HC.out.mono ?_
      rintro ee w2 ⟨rfl, hx2⟩
      have HX2 := Lib.hid (HX.out.1.trans hx2)
      clear hx2 HC c5
      by_cases he : e = 0
      · subst he
        go_wp2_with fail
        go_roundg g
        case measure => omega
        case rel => exact ⟨i + 1, by omega, by go_num, by simpa using HX.out.2, HX2.out⟩
      · have heb : (e != 0) = true := bne_iff_ne.2 he
        have hBt : BAD = true := by rw [← HX.out.2]; simp [he]
        have hR := HR.out
        rw [if_pos (.inr hBt)] at hR
        subst hR
        go_wp2_with fail
        go_ret2
        exact ⟨_, rfl, HX2.out, none, 0, rfl, by simp, fun k hk => by cases hk⟩
    · obtain rfl : gk = 0 := by omega
      have hBf : BAD = false := by rw [← hB, List.drop_eq_nil_of_le (by rw [HH.out.2.2.1]; omega)]; rfl
      have hR := HR.out
      rw [if_neg (by rw [hBf]; simp)] at hR
      have HR2 := Lib.hid hR
      have HX0 := Lib.hid hx
      clear hx hB hR HR
      go_wp2_with fail
      go_loopg [7] n (fun g iv wr => ∃ i : Nat, g + i = n ∧ iv = .int .i64 i ∧ firstN (ls.drop i) = F ∧ Ext [] w wr)
      case atStart => exact ⟨0, by omega, rfl, HH.out.2.2.2.2.2.2.2.1, HX0.out⟩
      case round =>
        clear HX0 hlt
        obtain ⟨i, hgi, rfl, hR, hx⟩ := hrel
        by_cases hlt : i < n
        · obtain ⟨g, rfl⟩ : ∃ g, gk = g + 1 := ⟨gk - 1, by omega⟩
          have hltz : (i : Int) < (n : Int) := by omega
          have hil : i < ls.length := by rw [HH.out.2.2.2.1]; exact hlt
          rw [drop_at ls i hil, firstN] at hR
          obtain ⟨b, o, vk, rfl, hc, hN⟩ := HH.out.2.1.ext hx i hil
          obtain ⟨h1, h2⟩ := HH.out.2.2.2.2.2.1 _ (List.getElem_mem hil)
          have HC := Lib.hid (check17_walk vk _ wr hN h1 h2)
          have HX := Lib.hid (⟨hx, hR⟩ : _ ∧ _)
          clear hx hR hN h1 h2
          generalize checkN (ls[i]'hil) = e at HC HX
          go_wp2_with fail
          refine HC.out.mono ?_
          rintro ee w2 ⟨rfl, hx2⟩
          have HX2 := Lib.hid (HX.out.1.trans hx2)
          clear hx2 HC hc
          by_cases he : e = 0
          · subst he
            go_wp2_with fail
            go_roundg g
            case measure => omega
            case rel => exact ⟨i + 1, by omega, by go_num, by simpa using HX.out.2, HX2.out⟩
          · have heb : (e != 0) = true := bne_iff_ne.2 he
            have hFe : F = e := by have := HX.out.2; rw [if_neg he] at this; exact this.symm
            have hR := HR2.out
            rw [if_pos (by rw [hFe]; exact he), hFe] at hR
            subst hR
            go_wp2_with fail
            go_ret2
            exact ⟨_, rfl, HX2.out, none, 0, rfl, by simp, fun k hk => by cases hk⟩
        · obtain rfl : gk = 0 := by omega
          have hF0 : F = 0 := by rw [← hR, List.drop_eq_nil_of_le (by rw [HH.out.2.2.2.1]; omega)]; rfl
          have hR2 := HR2.out
          rw [if_neg (by rw [hF0]; simp)] at hR2
          have HR := Lib.hid hR2
          have HF0 := Lib.hid hF0
          have S := ((Sep.start w).quiet hx).new (Ext.refl _ _) (oOrd (.slice none 0 0) []) (World.ownsRow_nil _ _ _ _) (fun q hq => by simp [oOrd, oSl, Value.ownBlock] at hq)
          have HS := Lib.hid S
          clear hx hR hR2 S HR2 hF0
          go_wp2_with fail
          go_loopg [9, 10] n (fun g ov iv wr => ∃ (i : Nat) (O : List Nat), g + i = n ∧ iv = .int .i64 i ∧ Ord names i O ∧ Sep w wr [oOrd ov O])
          case atStart => exact ⟨0, [], by omega, rfl, Ord.nil names, HS.out⟩
          case round =>
            clear HS hlt
            obtain ⟨i, O, hgi, rfl, hO, S⟩ := hrel
            have hrow : wr.ownsRow 0 3 1 u9 O.length (ndC O) := S.get 0 rfl
            have hOl := hO.len
            obtain ⟨ao, c9, rfl⟩ := row_slice hrow
            rw [hOl] at hrow ⊢
            have HO := Lib.hid (⟨hO, S, hrow, hOl⟩ : _ ∧ _ ∧ _ ∧ _)
            clear hO S hrow hOl
            by_cases hlt : i < n
            · obtain ⟨g, rfl⟩ : ∃ g, gk = g + 1 := ⟨gk - 1, by omega⟩
              have hltz : (i : Int) < (n : Int) := by omega
              go_upto_block 6 with fail
              have hil : i < names.length := by rw [HH.out.2.2.1]; exact hlt
              obtain ⟨b5, o5, rfl, c5⟩ := HH.out.1 i hil
              obtain ⟨nm, hnm⟩ : ∃ nm, nmK names i = nm := ⟨_, rfl⟩
              rw [hnm] at c5
              have HNM := Lib.hid hnm
              have HC5 := Lib.hid c5
              clear hnm c5
              go_cut [11] from 45 to 100 (fun c11 wx => ∃ k : Nat, c11 = .int .i64 k ∧ k ≤ i ∧ (∀ x ∈ O.drop k, ltB nm (nmK names x)) ∧ (k = 0 ∨ ∃ o, O[k - 1]? = some o ∧ ¬ ltB nm (nmK names o)) ∧ Sep w wx [oOrd (.slice ao O.length c9) O])
              case first =>
                go_wp2_with fail
                go_loopg [11] i (fun g2 kv wx => ∃ k : Nat, g2 = k ∧ kv = .int .i64 k ∧ k ≤ i ∧ (∀ x ∈ O.drop k, ltB nm (nmK names x)) ∧ Sep w wx [oOrd (.slice ao O.length c9) O])
                case atStart => exact ⟨i, rfl, rfl, Nat.le_refl _, (fun x hx => by rw [List.drop_eq_nil_of_le (by rw [HO.out.2.2.2]; omega)] at hx; cases hx), HO.out.2.1⟩
                case round =>
                  obtain ⟨k, hgk, rfl, hki, hhi, S⟩ := hrel
                  have hgk' := hgk.symm
                  clear hgk
                  subst hgk'
                  cases k with
                  | zero =>
                    have HX := Lib.hid (⟨hhi, S⟩ : _ ∧ _)
                    clear hhi S
                    go_upto_region 19 with (fail)
                    go_quiet (fail)
                    go_wp2_with fail
                    go_meet
                    exact ⟨0, rfl, hki, HX.out.1, .inl rfl, HX.out.2.quiet ((Ext.refl [] _).drewN nq)⟩
                  | succ k =>
                    have hrow : wr.ownsRow 0 3 1 (.slice ao O.length c9) O.length (ndC O) := S.get 0 rfl
                    have hOl := HO.out.2.2.2
                    rw [hOl] at hrow
                    obtain ⟨g9, c92, he⟩ := row_form hrow (by omega)
                    cases he
                    have hkO : k < O.length := by omega
                    have f1 := row_cell hrow (i := k) (u := .int .i64 ((O[k]'hkO : Nat) : Int)) (by rw [ndC, List.getElem?_map, List.getElem?_eq_getElem hkO]; rfl)
                    have hol := HO.out.1.lt _ (List.getElem_mem hkO)
                    have hget : O[k]? = some (O[k]'hkO) := List.getElem?_eq_getElem hkO
                    have hdr : O.drop k = O[k]'hkO :: O.drop (k + 1) := drop_at O k hkO
                    obtain ⟨o, ho⟩ : ∃ o, O[k]'hkO = o := ⟨_, rfl⟩
                    rw [ho] at f1 hol hget hdr
                    obtain ⟨b6, o6, e6, c6⟩ := HH.out.1 o (by rw [HH.out.2.2.1]; omega)
                    cases e6
                    have c6 := S.ext.cell c6
                    have c5 := S.ext.cell HC5.out
                    obtain ⟨om, hom⟩ : ∃ om, nmK names o = om := ⟨_, rfl⟩
                    rw [hom] at c6
                    have HX := Lib.hid (⟨hhi, S, hget, hdr, hom⟩ : _ ∧ _ ∧ _ ∧ _ ∧ _)
                    have hkz : (0 : Int) < (k : Int) + 1 := by omega
                    have hoz : (o : Int) < (n : Int) := by omega
                    have hkiz : (k : Int) < (i : Int) := by omega
                    clear hhi S hget hdr hom hrow hOl
                    by_cases hless : ltB nm om
                    · have hl1 : Op.bytesLess om.toList nm.toList = false := by
                        cases h : Op.bytesLess om.toList nm.toList with
                        | false => rfl
                        | true => exact absurd (ltB_trans hless h) (ltB_irrefl _)
                      have hl2 : (om.toList == nm.toList) = false := beq_eq_false_iff_ne.2 fun h => by
                        rw [ltB, h] at hless
                        exact ltB_irrefl _ hless
                      go_upto_region 19 with (fail)
                      go_quiet (fail)
                      go_wp2_with fail
                      go_roundg k
                      case measure => omega
                      case rel =>
                        refine ⟨k, rfl, by go_num, by omega, fun x hx => ?_, HX.out.2.1.quiet ((Ext.refl [] _).drewN nq)⟩
                        rw [HX.out.2.2.2.1] at hx
                        rcases List.mem_cons.1 hx with rfl | hx
                        · rw [HX.out.2.2.2.2]; exact hless
                        · exact HX.out.1 x hx
                    · have hl1 : (Op.bytesLess om.toList nm.toList || (om.toList == nm.toList)) = true := by
                        rcases ltB_tri nm om with h | h | h
                        · exact absurd h hless
                        · subst h; simp
                        · rw [ltB] at h; rw [h]; rfl
                      have hl2 : (!Op.bytesLess om.toList nm.toList && !(om.toList == nm.toList)) = false := by
                        rw [← Bool.not_or, hl1]; rfl
                      have HLE := Lib.hid hless
                      clear hless
                      go_upto_region 19 with (fail)
                      go_quiet (fail)
                      go_wp2_with fail
                      go_meet
                      refine ⟨k + 1, by go_num, hki, HX.out.1, .inr ⟨o, by rw [Nat.add_sub_cancel]; exact HX.out.2.2.1, ?_⟩, HX.out.2.1.quiet ((Ext.refl [] _).drewN nq)⟩
                      rw [HX.out.2.2.2.2]
                      exact HLE.out
              case rest =>
                obtain ⟨k, rfl, hki, hhi, hlo, S⟩ := hcut
                have HK := Lib.hid (⟨hhi, hlo, S⟩ : _ ∧ _ ∧ _)
                clear hhi hlo S
                go_upto_region 21 with (fail)
                go_cut [88] from 45 to 100 (fun c88 wx => (TwiceIs c88 (R = ([], 6)) (k = 0 ∨ ∃ o, O[k - 1]? = some o ∧ ltB (nmK names o) nm)) ∧ Sep w wx [oOrd (.slice ao O.length c9) O])
                case first =>
                  obtain ⟨hhi, hlo, S⟩ := HK.out
                  cases k with
                  | zero =>
                    clear hhi hlo S
                    go_quiet (fail)
                    go_wp2_with fail
                    go_meet
                    exact ⟨.inr ⟨rfl, by simp⟩, HK.out.2.2.quiet ((Ext.refl [] _).drewN nq)⟩
                  | succ k =>
                    have hrow : wc.ownsRow 0 3 1 (.slice ao O.length c9) O.length (ndC O) := S.get 0 rfl
                    have hOl := HO.out.2.2.2
                    rw [hOl] at hrow
                    obtain ⟨g9, c92, he⟩ := row_form hrow (by omega)
                    cases he
                    have hkO : k < O.length := by omega
                    have f1 := row_cell hrow (i := k) (u := .int .i64 ((O[k]'hkO : Nat) : Int)) (by rw [ndC, List.getElem?_map, List.getElem?_eq_getElem hkO]; rfl)
                    have hol := HO.out.1.lt _ (List.getElem_mem hkO)
                    have hget : O[k]? = some (O[k]'hkO) := List.getElem?_eq_getElem hkO
                    obtain ⟨o, ho⟩ : ∃ o, O[k]'hkO = o := ⟨_, rfl⟩
                    rw [ho] at f1 hol hget
                    obtain ⟨b6, o6, e6, c6⟩ := HH.out.1 o (by rw [HH.out.2.2.1]; omega)
                    cases e6
                    have c6 := S.ext.cell c6
                    have c5 := S.ext.cell HC5.out
                    obtain ⟨om, hom⟩ : ∃ om, nmK names o = om := ⟨_, rfl⟩
                    rw [hom] at c6
                    have hle : ¬ ltB nm om := by
                      rcases hlo with h | ⟨o2, h1, h2⟩
                      · omega
                      · rw [Nat.add_sub_cancel, hget] at h1
                        cases h1
                        rw [hom] at h2
                        exact h2
                    have HX := Lib.hid (⟨hget, hom, hle⟩ : _ ∧ _ ∧ _)
                    have hkz : (0 : Int) < (k : Int) + 1 := by omega
                    have hoz : (o : Int) < (n : Int) := by omega
                    have hkiz : (k : Int) < (i : Int) := by omega
                    clear hhi S hget hom hrow hle hlo hOl
                    by_cases heq : om = nm
                    · have hl2 : (om.toList == nm.toList) = true := by rw [heq]; exact beq_self_eq_true _
                      have hR6 : R = ([], 6) := by
                        rw [← HR.out]
                        exact HO.out.1.twice (by rw [HH.out.2.2.1, HH.out.2.2.2.1]) (by rw [HH.out.2.2.1]; exact hlt) (List.mem_of_getElem? HX.out.1) (by rw [HX.out.2.1, HNM.out, heq])
                      have HR6 := Lib.hid hR6
                      clear heq hR6
                      go_quiet (fail)
                      go_wp2_with fail
                      go_meet
                      exact ⟨.inl ⟨rfl, HR6.out⟩, HK.out.2.2.quiet ((Ext.refl [] _).drewN nq)⟩
                    · have hl2 : (om.toList == nm.toList) = false := beq_eq_false_iff_ne.2 fun h => heq (by
                        rcases ltB_tri om nm with q | q | q
                        · rw [ltB, h] at q; exact absurd q (ltB_irrefl _)
                        · exact q
                        · rw [ltB, h] at q; exact absurd q (ltB_irrefl _))
                      have HNE := Lib.hid heq
                      clear heq
                      go_quiet (fail)
                      go_wp2_with fail
                      go_meet
                      refine ⟨.inr ⟨rfl, .inr ⟨o, by rw [Nat.add_sub_cancel]; exact HX.out.1, ?_⟩⟩, HK.out.2.2.quiet ((Ext.refl [] _).drewN nq)⟩
                      rw [HX.out.2.1]
                      rcases ltB_tri om nm with q | q | q
                      · exact q
                      · exact absurd q HNE.out
                      · exact absurd q HX.out.2.2
                case rest =>
                  obtain ⟨⟨rfl, hR6⟩ | ⟨rfl, hlo⟩, S⟩ := hcut
                  · have HS := Lib.hid S
                    subst hR6
                    clear S
                    go_wp2_with fail
                    go_ret2
                    exact ⟨_, rfl, HS.out.ext, none, 0, rfl, by simp, fun k hk => by cases hk⟩
                  have hins := HO.out.1.ins (k := k) (by rw [HO.out.2.2.2]; exact hki) (by rw [HNM.out]; exact HK.out.1) (by rw [HNM.out]; exact hlo)
                  obtain ⟨b8, c8, he8, hc8, hv8⟩ := own_vals (S.get 0 rfl : World.ownsRow _ 0 3 1 _ O.length (ndC O))
                  injection he8 with q1 q2 q3
                  subst q1 q3
                  clear q2
                  rw [HO.out.2.2.2] at hc8
                  have hOlen : (ndC O).length = i := by rw [ndC_len, HO.out.2.2.2]
                  have hsz : ∀ w, (Go.sizeOf 3).run Tryz.prog w = .ok 1 w := fun w => by simp [Go.sizeOf, typeInfo, hif, hz1]
                  have hs1 := slice_from (P := Tryz.prog) Tryz.underlying45 hsz ao i c9 k hki
                  have hs2 := slice_upto (P := Tryz.prog) Tryz.underlying45 hsz ao i c9 k hki hc8
                  have hone : ∀ x ∈ ndC O, x.oneCell' = true := fun x hx => by
                    obtain ⟨y, _, rfl⟩ := List.mem_map.1 hx
                    rfl
                  have hl1 : ((ndC O).take k).length = k := by rw [List.length_take, hOlen]; omega
                  have hl2 : ((ndC O).drop k).length = i - k := by rw [List.length_drop, hOlen]
                  have HA1 := Lib.hid (fun (W : World) (v2 : Value) (ho : W.ownsRow 0 3 1 v2 0 []) (hx : Ext [] wc W) => app_vals (P := Tryz.prog) (t := 45) Tryz.underlying45 hif hz0 hz1 hz2 rfl (by decide) ho (base := ao) (cap := c9) (ys := (ndC O).take k) ((hv8.ext hx).upto k) (fun u hu => hone u (List.mem_of_mem_take hu)) (by rw [hl1]; omega) 45)
                  have HA2 := Lib.hid (fun (W : World) (v2 : Value) (q : Nat) (ho : W.ownsRow 0 3 1 v2 k ((ndC O).take k)) (hq : W.ownsRow 0 3 1 (.slice (some ⟨q, 0, none⟩) 1 1) 1 [iz i]) => app_vals (P := Tryz.prog) (t := 45) Tryz.underlying45 hif hz0 hz1 hz2 rfl (by decide) ho (base := some ⟨q, 0, none⟩) (cap := 1) (ys := [iz i]) (by
                    obtain ⟨b, c, he, -, hv⟩ := own_vals hq
                    cases he
                    exact hv) (fun u hu => by obtain rfl : u = iz i := by simpa using hu
                                              rfl) (by simp only [List.length_cons, List.length_nil]; omega) 45)
                  have HA3 := Lib.hid (fun (W : World) (v2 : Value) (ho : W.ownsRow 0 3 1 v2 (k + 1) ((ndC O).take k ++ [iz i])) (hx : Ext [] wc W) => app_vals (P := Tryz.prog) (t := 45) Tryz.underlying45 hif hz0 hz1 hz2 rfl (by decide) ho (base := fromB ao c9 k) (cap := c9 - k) (ys := (ndC O).drop k) ((hv8.ext hx).from (by rw [hOlen]; exact hc8) k) (fun u hu => hone u (List.mem_of_mem_drop hu)) (by rw [hl2]; omega) 45)
                  simp only [hl1, Nat.zero_add, List.nil_append] at HA1
                  simp only [List.length_cons, List.length_nil, Nat.zero_add] at HA2
                  simp only [hl2, show k + 1 + (i - k) = i + 1 by omega] at HA3
                  have hcells : (ndC O).take k ++ [iz i] ++ (ndC O).drop k = ndC (O.take k ++ i :: O.drop k) := by
                    rw [ndC, ndC, List.map_append, List.map_cons, List.map_take, List.map_drop, List.append_assoc]
                    rfl
                  have hlen2 : (O.take k ++ i :: O.drop k).length = i + 1 := hins.len
                  have HEND := Lib.hid (fun (V : World) (a3 : Option Addr) (c3 : Nat) (hx : Ext [] wc V) (ho : V.ownsRow 0 3 1 (.slice a3 (i + 1) c3) (i + 1) ((ndC O).take k ++ [iz i] ++ (ndC O).drop k)) (hb : ∀ k ∈ (oSl 3 1 (.slice a3 (i + 1) c3) (i + 1) ((ndC O).take k ++ [iz i] ++ (ndC O).drop k)).F, wc.heap.size ≤ k) => (by
                    have h1 := S.new hx (oOrd (.slice a3 (i + 1) c3) (O.take k ++ i :: O.drop k)) (by
                      show V.ownsRow 0 3 1 _ (O.take k ++ i :: O.drop k).length _
                      rw [hlen2, ← hcells]
                      exact ho) hb
                    exact Sep.tail (swap01 h1) : Sep w V [oOrd (.slice a3 (i + 1) c3) (O.take k ++ i :: O.drop k)]))
                  have HI := Lib.hid hins
                  have T0 := (Sep.start wc).quiet ((Ext.refl [] wc).drew)
                  have HT := Lib.hid T0
                  clear T0 hins hcells hlen2 hl1 hl2 hone hsz hOlen hv8 S hlo hc8
                  go_upto_region 23 with (fail)
                  refine wp_region_perm (C := fun w' => ∃ x : Ex wc, w' = x.w) [1, 2, 3, 5, 8, 9, 10] 12 (by kernel_rfl) (by kernel_rfl) ⟨Ex.mk _ ((Ext.refl [] wc).drew), rfl⟩ ?_
                  simp only [pick, List.drop_succ_cons, List.drop_zero, List.getElem?_toArray, List.getElem?_cons_zero, List.getElem?_cons_succ]
                  repeat (go_big_quiet_step (fail))
                  refine wpQuiet_nil ?_
                  clear hs1 hs2
                  have T := HT.out
                  obtain ⟨V, hV⟩ : ∃ V, wc.drew = V := ⟨_, rfl⟩
                  rw [hV] at T ⊢
                  clear hV
                  have hsz1 : ∀ (V : World) (O : Obj), (V.alloc O).heap.size = V.heap.size + 1 := fun _ _ => by simp
                  refine anyC_two (f := 4) (i := 0) (j := 6) (by kernel_rfl) (by decide) (by decide) rfl rfl rfl rfl (fun K hK => ?_) (fun K hK => ?_)
                  · go_wp2_with fail
                    have T := T.new ((Ext.refl [] _).alloc _) (oSl 3 1 _ 0 []) empty_row (fun k hk => Nat.le_of_eq (List.mem_singleton.1 hk).symm)
                    refine hK _ _ ⟨Ex.mk _ T.ext, rfl⟩ ?_
                    clear hK K
                    refine anyC_two (f := 3) (i := 4) (j := 6) (by kernel_rfl) (by decide) (by decide) rfl rfl rfl rfl (fun K hK => ?_) (fun K hK => ?_)
                    · have ho : World.ownsRow _ 0 3 1 _ 0 [] := T.get 0 rfl
                      obtain ⟨an, cn, W1, hr, ho2, hx2, hf2⟩ := HA1.out _ _ ho T.ext
                      refine wp_append_run _ _ _ _ rfl rfl rfl hr ?_
                      have T := T.upd 0 (oSl 3 1 (.slice an k cn) k ((ndC O).take k)) rfl hx2 hf2 ho2
                      clear ho hr ho2 hx2 hf2
                      refine hK _ _ ⟨Ex.mk _ T.ext, rfl⟩ ?_
                      clear hK K
                      refine anyC_one (f := 2) (i := 6) (by kernel_rfl) (by decide) rfl rfl (fun K hK => ?_)
                      go_wp2_with fail
                      have T := T.new ((Ext.refl [] _).alloc _) (oSl 3 1 _ 1 [iz i]) one_row (fun k hk => Nat.le_of_eq (List.mem_singleton.1 hk).symm)
                      refine hK _ _ ⟨Ex.mk _ T.ext, rfl⟩ ?_
                      clear hK K
                      refine anyC_one (f := 1) (i := 7) (by kernel_rfl) (by decide) rfl rfl (fun K hK => ?_)
                      have ho : World.ownsRow _ 0 3 1 _ k ((ndC O).take k) := T.get 1 rfl
                      have hq : World.ownsRow _ 0 3 1 _ 1 [iz i] := T.get 0 rfl
                      obtain ⟨an2, cn2, W2, hr, ho2, hx2, hf2⟩ := HA2.out _ _ _ ho hq
                      refine wp_append_run _ _ _ _ rfl rfl rfl hr ?_
                      have T := T.upd 1 (oSl 3 1 (.slice an2 (k + 1) cn2) (k + 1) ((ndC O).take k ++ [iz i])) rfl hx2 hf2 ho2
                      clear ho hr ho2 hx2 hf2
                      refine hK _ _ ⟨Ex.mk _ T.ext, rfl⟩ ?_
                      clear hK K
                      refine anyC_one (f := 0) (i := 11) (by kernel_rfl) (by decide) rfl rfl (fun K hK => ?_)
                      have ho : World.ownsRow _ 0 3 1 _ (k + 1) ((ndC O).take k ++ [iz i]) := T.get 1 rfl
                      obtain ⟨an3, cn3, W3, hr, ho2, hx2, hf2⟩ := HA3.out _ _ ho T.ext
                      refine wp_append_run _ _ _ _ rfl rfl rfl hr ?_
                      have T := T.upd 1 (oSl 3 1 (.slice an3 (i + 1) cn3) (i + 1) ((ndC O).take k ++ [iz i] ++ (ndC O).drop k)) rfl hx2 hf2 ho2
                      clear ho hr ho2 hx2 hf2
                      refine hK _ _ ⟨Ex.mk _ T.ext, rfl⟩ ?_
                      clear hK K
                      refine anyC_end (by kernel_rfl) ?_
                      go_wp2_with fail
                      refine NoPanic.normal ?_
                      go_wp2_with fail
                      go_roundg g
                      case measure => omega
                      case rel =>
                        have ho : World.ownsRow _ 0 3 1 _ (i + 1) ((ndC O).take k ++ [iz i] ++ (ndC O).drop k) := T.get 1 rfl
                        exact ⟨i + 1, _, by omega, by go_num, HI.out, HEND.out _ an3 cn3 T.ext ho (T.base (oSl 3 1 (.slice an3 (i + 1) cn3) (i + 1) ((ndC O).take k ++ [iz i] ++ (ndC O).drop k)) (List.mem_of_getElem? (i := 1) rfl))⟩
                    · go_wp2_with fail
                      have T := T.new ((Ext.refl [] _).alloc _) (oSl 3 1 _ 1 [iz i]) one_row (fun k hk => Nat.le_of_eq (List.mem_singleton.1 hk).symm)
                      rw [hsz1] at T
                      refine hK _ _ ⟨Ex.mk _ T.ext, rfl⟩ ?_
                      clear hK K
                      refine anyC_one (f := 2) (i := 4) (by kernel_rfl) (by decide) rfl rfl (fun K hK => ?_)
                      have ho : World.ownsRow _ 0 3 1 _ 0 [] := T.get 1 rfl
                      obtain ⟨an, cn, W1, hr, ho2, hx2, hf2⟩ := HA1.out _ _ ho T.ext
                      refine wp_append_run _ _ _ _ rfl rfl rfl hr ?_
                      have T := T.upd 1 (oSl 3 1 (.slice an k cn) k ((ndC O).take k)) rfl hx2 hf2 ho2
                      clear ho hr ho2 hx2 hf2
                      refine hK _ _ ⟨Ex.mk _ T.ext, rfl⟩ ?_
                      clear hK K
                      refine anyC_one (f := 1) (i := 7) (by kernel_rfl) (by decide) rfl rfl (fun K hK => ?_)
                      have ho : World.ownsRow _ 0 3 1 _ k ((ndC O).take k) := T.get 1 rfl
                      have hq : World.ownsRow _ 0 3 1 _ 1 [iz i] := T.get 0 rfl
                      obtain ⟨an2, cn2, W2, hr, ho2, hx2, hf2⟩ := HA2.out _ _ _ ho hq
                      refine wp_append_run _ _ _ _ rfl rfl rfl hr ?_
                      have T := T.upd 1 (oSl 3 1 (.slice an2 (k + 1) cn2) (k + 1) ((ndC O).take k ++ [iz i])) rfl hx2 hf2 ho2
                      clear ho hr ho2 hx2 hf2
                      refine hK _ _ ⟨Ex.mk _ T.ext, rfl⟩ ?_
                      clear hK K
                      refine anyC_one (f := 0) (i := 11) (by kernel_rfl) (by decide) rfl rfl (fun K hK => ?_)
                      have ho : World.ownsRow _ 0 3 1 _ (k + 1) ((ndC O).take k ++ [iz i]) := T.get 1 rfl
                      obtain ⟨an3, cn3, W3, hr, ho2, hx2, hf2⟩ := HA3.out _ _ ho T.ext
                      refine wp_append_run _ _ _ _ rfl rfl rfl hr ?_
                      have T := T.upd 1 (oSl 3 1 (.slice an3 (i + 1) cn3) (i + 1) ((ndC O).take k ++ [iz i] ++ (ndC O).drop k)) rfl hx2 hf2 ho2
                      clear ho hr ho2 hx2 hf2
                      refine hK _ _ ⟨Ex.mk _ T.ext, rfl⟩ ?_
                      clear hK K
                      refine anyC_end (by kernel_rfl) ?_
                      go_wp2_with fail
                      refine NoPanic.normal ?_
                      go_wp2_with fail
                      go_roundg g
                      case measure => omega
                      case rel =>
                        have ho : World.ownsRow _ 0 3 1 _ (i + 1) ((ndC O).take k ++ [iz i] ++ (ndC O).drop k) := T.get 1 rfl
                        exact ⟨i + 1, _, by omega, by go_num, HI.out, HEND.out _ an3 cn3 T.ext ho (T.base (oSl 3 1 (.slice an3 (i + 1) cn3) (i + 1) ((ndC O).take k ++ [iz i] ++ (ndC O).drop k)) (List.mem_of_getElem? (i := 1) rfl))⟩
                  · go_wp2_with fail
                    have T := T.new ((Ext.refl [] _).alloc _) (oSl 3 1 _ 1 [iz i]) one_row (fun k hk => Nat.le_of_eq (List.mem_singleton.1 hk).symm)
                    refine hK _ _ ⟨Ex.mk _ T.ext, rfl⟩ ?_
                    clear hK K
                    refine anyC_one (f := 3) (i := 0) (by kernel_rfl) (by decide) rfl rfl (fun K hK => ?_)
                    go_wp2_with fail
                    have T := T.new ((Ext.refl [] _).alloc _) (oSl 3 1 _ 0 []) empty_row (fun k hk => Nat.le_of_eq (List.mem_singleton.1 hk).symm)
                    rw [hsz1] at T
                    refine hK _ _ ⟨Ex.mk _ T.ext, rfl⟩ ?_
                    clear hK K
                    refine anyC_one (f := 2) (i := 4) (by kernel_rfl) (by decide) rfl rfl (fun K hK => ?_)
                    have ho : World.ownsRow _ 0 3 1 _ 0 [] := T.get 0 rfl
                    obtain ⟨an, cn, W1, hr, ho2, hx2, hf2⟩ := HA1.out _ _ ho T.ext
                    refine wp_append_run _ _ _ _ rfl rfl rfl hr ?_
                    have T := T.upd 0 (oSl 3 1 (.slice an k cn) k ((ndC O).take k)) rfl hx2 hf2 ho2
                    clear ho hr ho2 hx2 hf2
                    refine hK _ _ ⟨Ex.mk _ T.ext, rfl⟩ ?_
                    clear hK K
                    refine anyC_one (f := 1) (i := 7) (by kernel_rfl) (by decide) rfl rfl (fun K hK => ?_)
                    have ho : World.ownsRow _ 0 3 1 _ k ((ndC O).take k) := T.get 0 rfl
                    have hq : World.ownsRow _ 0 3 1 _ 1 [iz i] := T.get 1 rfl
                    obtain ⟨an2, cn2, W2, hr, ho2, hx2, hf2⟩ := HA2.out _ _ _ ho hq
                    refine wp_append_run _ _ _ _ rfl rfl rfl hr ?_
                    have T := T.upd 0 (oSl 3 1 (.slice an2 (k + 1) cn2) (k + 1) ((ndC O).take k ++ [iz i])) rfl hx2 hf2 ho2
                    clear ho hr ho2 hx2 hf2
                    refine hK _ _ ⟨Ex.mk _ T.ext, rfl⟩ ?_
                    clear hK K
                    refine anyC_one (f := 0) (i := 11) (by kernel_rfl) (by decide) rfl rfl (fun K hK => ?_)
                    have ho : World.ownsRow _ 0 3 1 _ (k + 1) ((ndC O).take k ++ [iz i]) := T.get 0 rfl
                    obtain ⟨an3, cn3, W3, hr, ho2, hx2, hf2⟩ := HA3.out _ _ ho T.ext
                    refine wp_append_run _ _ _ _ rfl rfl rfl hr ?_
                    have T := T.upd 0 (oSl 3 1 (.slice an3 (i + 1) cn3) (i + 1) ((ndC O).take k ++ [iz i] ++ (ndC O).drop k)) rfl hx2 hf2 ho2
                    clear ho hr ho2 hx2 hf2
                    refine hK _ _ ⟨Ex.mk _ T.ext, rfl⟩ ?_
                    clear hK K
                    refine anyC_end (by kernel_rfl) ?_
                    go_wp2_with fail
                    refine NoPanic.normal ?_
                    go_wp2_with fail
                    go_roundg g
                    case measure => omega
                    case rel =>
                      have ho : World.ownsRow _ 0 3 1 _ (i + 1) ((ndC O).take k ++ [iz i] ++ (ndC O).drop k) := T.get 0 rfl
                      exact ⟨i + 1, _, by omega, by go_num, HI.out, HEND.out _ an3 cn3 T.ext ho (T.base (oSl 3 1 (.slice an3 (i + 1) cn3) (i + 1) ((ndC O).take k ++ [iz i] ++ (ndC O).drop k)) (List.mem_of_getElem? (i := 0) rfl))⟩
            · obtain rfl : gk = 0 := by omega
              obtain rfl : i = n := by omega
              have hdone := Ord.done (ls := ls) (by rw [HH.out.2.2.1, HH.out.2.2.2.1]) (show Ord names names.length O by rw [HH.out.2.2.1]; exact HO.out.1)
              obtain ⟨SP, hSP⟩ : ∃ SP : List (Et × List Nd), SP = O.map (fun k => ((nmK names k, hd k), ls.getD k [])) := ⟨_, rfl⟩
              have hSE : SP.map (fun p => (p.1.1, p.2)) = ordS names ls O := by rw [hSP, List.map_map]; rfl
              have hSl : SP.length = i := by rw [hSP, List.length_map, HO.out.2.2.2]
              have hSj : ∀ j (hj : j < O.length), SP[j]? = some ((nmK names (O[j]'hj), hd (O[j]'hj)), ls.getD (O[j]'hj) []) := fun j hj => by rw [hSP, List.getElem?_map, List.getElem?_eq_getElem hj]; rfl
              have hSN : ∀ p ∈ SP, NodesAt w (slC p.1.2) p.2 := fun p hp => by
                rw [hSP] at hp
                obtain ⟨k, hk, rfl⟩ := List.mem_map.1 hp
                obtain ⟨_, _, _, _, h3⟩ := HH.out.2.2.2.2.2.2.2.2 k (by rw [HH.out.2.2.2.1]; exact HO.out.1.lt k hk)
                exact h3
              rw [HR.out, ← hSE] at hdone
              have HD := Lib.hid (⟨hdone.1, hdone.2, hSE, hSl, hSj, hSN⟩ : _ ∧ _ ∧ _ ∧ _ ∧ _ ∧ _)
              have S := HO.out.2.1.new (Ext.refl _ _) (oNm []) (fun p hp => by cases hp) (fun k hk => by cases hk)
              have S := S.new (Ext.refl _ _) (oSl 30 1 (.slice none 0 0) 0 []) (World.ownsRow_nil _ _ _ _) (fun q hq => by simp [oSl, Value.ownBlock] at hq)
              have HS := Lib.hid S
              clear S hdone hSP hSE hSl hSj hSN
              go_wp2_with fail
              go_loopg [12, 13] i (fun g ov iv wx => ∃ (j : Nat) (G : List (Nat × ByteArray)), g + j = i ∧ iv = .int .i64 j ∧ G.length = j ∧ G.map (·.2) = (SP.take j).map (·.1.1) ∧ Sep w wx (oSl 30 1 ov (2 * j) (allC G ((SP.take j).map (·.1))) :: oNm G :: [oOrd (.slice ao O.length c9) O]))
              case atStart => exact ⟨0, [], by omega, rfl, rfl, rfl, HS.out⟩
              case round =>
                clear HS hlt
                obtain ⟨j, G, hgj, rfl, hG, hGm, S⟩ := hrel
                have hr0 : wr.ownsRow 0 30 1 u12 (2 * j) (allC G ((SP.take j).map (·.1))) := S.get 0 rfl
                obtain ⟨ao4, cap4, rfl⟩ := row_slice hr0
                by_cases hlt : j < i
                · obtain ⟨g, rfl⟩ : ∃ g, gk = g + 1 := ⟨gk - 1, by omega⟩
                  have hltz : (j : Int) < (i : Int) := by omega
                  have hrow : wr.ownsRow 0 3 1 (.slice ao O.length c9) O.length (ndC O) := S.get 2 rfl
                  have hOl := HO.out.2.2.2
                  rw [hOl] at hrow
                  obtain ⟨g9, c92, he⟩ := row_form hrow (by omega)
                  cases he
                  have hkO : j < O.length := by omega
                  have f1 := row_cell hrow (i := j) (u := .int .i64 ((O[j]'hkO : Nat) : Int)) (by rw [ndC, List.getElem?_map, List.getElem?_eq_getElem hkO]; rfl)
                  have hol := HO.out.1.lt _ (List.getElem_mem hkO)
                  have hget := HD.out.2.2.2.2.1 j hkO
                  obtain ⟨o, ho⟩ : ∃ o, O[j]'hkO = o := ⟨_, rfl⟩
                  rw [ho] at f1 hol hget
                  have htk : SP.take (j + 1) = SP.take j ++ [((nmK names o, hd o), ls.getD o [])] := by
                    obtain ⟨h1, h2⟩ := List.getElem?_eq_some_iff.1 hget
                    rw [List.take_succ_eq_append_getElem h1, h2]
                  obtain ⟨b5, o5, rfl, c5⟩ := HH.out.1 o (by rw [HH.out.2.2.1]; omega)
                  obtain ⟨b6, o6, rfl, c6, -⟩ := HH.out.2.2.2.2.2.2.2.2 o (by rw [HH.out.2.2.2.1]; omega)
                  have c5 := S.ext.cell c5
                  have c6 := S.ext.cell c6
                  obtain ⟨nm, hnm⟩ : ∃ nm, nmK names o = nm := ⟨_, rfl⟩
                  rw [hnm] at c5 htk
                  obtain ⟨hq, hhq⟩ : ∃ hq, hd o = hq := ⟨_, rfl⟩
                  rw [hhq] at c6 htk
                  obtain ⟨xa, xn, xc⟩ := hq
                  have e1 : ∀ y : Ex wr, y.w.cell? ⟨g9, j, none⟩ = some (.int .i64 (o : Nat)) := fun y => y.cell f1
                  have e2 : ∀ y : Ex wr, y.w.cell? ⟨b5, o5 + o, none⟩ = some (.string nm) := fun y => y.cell c5
                  have e3 : ∀ y : Ex wr, y.w.cell? ⟨b6, o6 + o, none⟩ = some (.slice xa xn xc) := fun y => y.cell c6
                  have hoz : (o : Int) < (i : Int) := by omega
                  have HX := Lib.hid (⟨S, hG, hGm, htk, hr0⟩ : _ ∧ _ ∧ _ ∧ _ ∧ _)
                  clear S hG hGm htk hr0 f1 c5 c6 hrow hget hOl
                  go_upto_region 28 with (fail)
                  refine wp_region_perm (C := fun w' => ∃ x : Ex wr, w' = x.w) [0, 1, 2, 3, 4, 5, 6, 7, 8, 10, 11, 12, 13, 14, 15, 16] 18 (by kernel_rfl) (by kernel_rfl) ⟨Ex.mk _ ((Ext.refl [] wr).drew), rfl⟩ ?_
                  simp only [pick, List.drop_succ_cons, List.drop_zero, List.getElem?_toArray, List.getElem?_cons_zero, List.getElem?_cons_succ]
                  repeat (go_big_quiet_step (fail))
                  refine wpQuiet_nil ?_
                  clear e1 e2 e3
                  obtain ⟨V, hV⟩ : ∃ V, wr.drew = V := ⟨_, rfl⟩
                  have hx2 : Ext [] wr V := by rw [← hV]; exact (Ext.refl [] wr).drew
                  rw [hV]
                  have HR9 := Lib.hid (⟨ownsRow_ext HX.out.2.2.2.2 hx2 (by simp), hx2⟩ : _ ∧ _)
                  clear hV hx2
                  refine anyC_one (f := 1) (i := 9) (by kernel_rfl) (by decide) rfl rfl (fun K hK => ?_)
                  go_wp2_with fail
                  refine hK _ _ ⟨Ex.mk _ (HR9.out.2.alloc _), rfl⟩ ?_
                  clear hK K
                  refine anyC_one (f := 0) (i := 17) (by kernel_rfl) (by decide) rfl rfl (fun K hK => ?_)
                  go_wp2_with fail
                  refine hK _ _ ⟨Ex.mk _ ((HR9.out.2.alloc _).alloc _), rfl⟩ ?_
                  clear hK K
                  refine anyC_end (by kernel_rfl) ?_
                  go_wp2_with (at_builtin; refine wpList_append_lies _ rfl _ _ 42 rfl 0 30 j0 _ 1 24 Tryz.underlying42 hjf hy0 hy1 hy2 rfl (by decide) (.slice ao4 (2 * j) cap4) (2 * j) _ rfl (World.ownsRow.alloc (World.ownsRow.alloc HR9.out.1 _) _) ⟨V.heap.size + 1, 0, none⟩ 2 2 [.slice (some ⟨V.heap.size, 0, none⟩) 1 1, .slice xa xn xc] rfl rfl (cells_two2 _ _ _ _ _) (by simp [Value.oneCell']) (by decide) (by unfold maxLen; omega) (by omega) (by omega) (V.heap.size + 2) (by simp) ?_; intro g6 cap2 w6 hown1 hgrow hat6 hlt6)
                  refine NoPanic.normal ?_
                  have hsz : (V.alloc (nmObj nm)).heap.size = V.heap.size + 1 := by simp
                  have Pl := push_local (w := V.alloc (nmObj nm)) (cap := cap2) (n := 2 * j + 2) hgrow (by rcases hat6 with q1 | q1; exact .inl q1; exact .inr (by rw [hsz]; omega))
                  have S1 := (HX.out.1.quiet HR9.out.2).upd 1 (oNm (G ++ [(V.heap.size, nm)])) rfl (((Ext.refl [] V).alloc (nmObj nm)).weak) (fun k hk => by
                    obtain ⟨p9, hp9, rfl⟩ := List.mem_map.1 hk
                    rcases List.mem_append.1 hp9 with h9 | h9
                    · exact .inl (List.mem_map_of_mem h9)
                    · obtain rfl : p9 = (V.heap.size, nm) := by simpa using h9
                      exact .inr (Nat.le_refl _)) (fun p9 hp9 => by
                    rcases List.mem_append.1 hp9 with h9 | h9
                    · exact heap_alloc_old _ ((HX.out.1.quiet HR9.out.2).get 1 rfl p9 h9)
                    · obtain rfl : p9 = (V.heap.size, nm) := by simpa using h9
                      exact heap_alloc_at _)
                  have hSPl := HD.out.2.2.2.1
                  have S2 := S1.upd 0 (oSl 30 1 (.slice (some ⟨g6, 0, none⟩) (2 * (j + 1)) cap2) (2 * (j + 1)) (allC (G ++ [(V.heap.size, nm)]) ((SP.take (j + 1)).map (·.1)))) rfl Pl.1 Pl.2 (by
                    show World.ownsRow _ 0 30 1 _ _ _
                    rw [HX.out.2.2.2.1, List.map_append, List.map_cons, List.map_nil, allC_push _ _ _ _ (by rw [HX.out.2.1, List.length_map, List.length_take]; omega)]
                    exact hown1)
                  have HS2 := Lib.hid S2
                  clear S1 S2 Pl hown1 hgrow hat6 hlt6 hsz hSPl
                  go_wp2_with fail
                  go_roundg g
                  case measure => omega
                  case rel =>
                    exact ⟨j + 1, G ++ [(V.heap.size, nm)], by omega, by go_num, by rw [List.length_append, HX.out.2.1]; rfl, by rw [List.map_append, HX.out.2.2.1, HX.out.2.2.2.1, List.map_append]; rfl, HS2.out⟩
                · obtain rfl : gk = 0 := by omega
                  obtain rfl : j = i := by omega
                  have htake : SP.take j = SP := by rw [← HD.out.2.2.2.1, List.take_length]
                  rw [htake] at hGm hr0
                  have hmemz : ∀ p ∈ SP, p.1.1 ∈ names ∧ p.2 ∈ ls := fun p hp => by
                    have h1 : (p.1.1, p.2) ∈ names.zip ls := HD.out.2.1 _ (List.mem_map_of_mem (f := fun p : Et × List Nd => (p.1.1, p.2)) hp)
                    exact ⟨(List.of_mem_zip h1).1, (List.of_mem_zip h1).2⟩
                  have hT : TreesAt wr (.slice ao4 (2 * j) cap4) (allN (SP.map fun p => (p.1.1, p.2))) := by
                    refine trees_of (G := G) ?_ hGm (S.get 1 rfl) (fun p hp => ⟨(HD.out.2.2.2.2.2 p hp).ext S.ext, by have := HH.out.2.2.2.2.1 _ (hmemz p hp).1; omega⟩)
                    rw [HD.out.2.2.2.1]
                    exact hr0
                  have hnames : ∀ s ∈ names, nameN s = 0 := fun s hs => by
                    have hb2 := HH.out.2.2.2.2.2.2.1
                    rw [hBf, List.any_eq_false] at hb2
                    simpa using hb2 s hs
                  have hall : ∀ l ∈ allN (SP.map fun p => (p.1.1, p.2)), (∀ x ∈ l, x.s.size ≤ 1000000) ∧ checkN l = 0 := fun l hl => by
                    obtain ⟨p9, hp9, h9⟩ := List.mem_flatMap.1 hl
                    obtain ⟨p8, hp8, rfl⟩ := List.mem_map.1 hp9
                    obtain ⟨h1, h2⟩ := hmemz p8 hp8
                    simp only [List.mem_cons, List.not_mem_nil, or_false] at h9
                    rcases h9 with rfl | rfl
                    · refine ⟨fun x hx => ?_, name_ok (hnames _ h1)⟩
                      obtain rfl : x = nameNd p8.1.1 := by simpa using hx
                      exact HH.out.2.2.2.2.1 _ h1
                    · exact ⟨(HH.out.2.2.2.2.2.1 _ h2).2, firstN_zero (HH.out.2.2.2.2.2.2.2.1.trans HF0.out) _ h2⟩
                  have hU := put17_walk 8 _ _ wr hT (by rw [allN_len, List.length_map, HD.out.2.2.2.1]; omega) (fun l hl => (hall l hl).1) (fun l hl => (hall l hl).2)
                  rw [← HD.out.1] at hU
                  have HU := Lib.hid hU
                  have HE := Lib.hid S.ext
                  clear hU hT hmemz hall hnames htake hGm hG hr0 S
                  go_wp2_with fail
                  refine HU.out.mono ?_
                  rintro e w2 ⟨v2, rfl, hx2, hN⟩
                  have HF := Lib.hid (⟨HE.out.trans hx2, hN⟩ : _ ∧ _)
                  clear hx2 hN HU HE
                  go_wp2_with fail
                  go_ret2
                  exact ⟨_, rfl, HF.out.1, HF.out.2⟩
end Go.Proofs.YtgpgamohcafklaaGreatDoor.Tr
