/-
  law17.TreeBack walked.
-/
import Derived.Test.YtkjcjklnclahdaaDoorTtE
import Derived.Test.YtkjcjklnclahdaaDoorTtN
namespace Go.Proofs.YtkjcjklnclahdaaDoor.Tr
open Go.RowKit

theorem array_len {ls : List (List Nd)} : (arrayN ls).1.length ≤ 65536 := by
  by_cases h : (arrayN ls).2 = 0
  · obtain ⟨h1, h2, -⟩ := array_ok h
    rw [h1]
    exact (check_zero h2).2.1
  · have : (arrayN ls).1 = [] := by
      unfold arrayN at h ⊢
      split
      · rename_i hf
        rw [if_pos hf, under_is] at h
        rw [under_is]
        split
        · rename_i hc
          rw [if_pos hc] at h
          exact absurd rfl h
        · rfl
      · rfl
    rw [this]
    exact Nat.zero_le _
theorem wd_size {S : List Ent} (h : checkN (wd S) = 0) : (wd S).length ≤ 65536 := (check_zero h).2.1
set_option maxRecDepth 100000 in
set_option maxHeartbeats 4000000 in
theorem back_law (u v x : Value) (names : List ByteArray) (ls : List (List Nd)) (nm : ByteArray) (t : List Nd) (w : World) (hu : StrArg w u names) (hv : TreesArg w v ls) (hnm : nm.size ≤ 9223372036854775807) (hx : NodeArg w x t) :
    Calls Tryd.prog 6 #[u, v, .string nm, x] w fun e w' => e = .returned (.bool true) ∧ Ext [] w w' := by
  obtain ⟨hu, hun, hus⟩ := hu
  obtain ⟨hv, hvn, hvl⟩ := hv
  obtain ⟨hx, hxl⟩ := hx
  have H1 := Lib.hid lives_walk
  have H2 := Lib.hid (fun W (hx : Ext [] w W) => lightT_walk v ls 20 60 W (hv.ext hx) hvn hvl)
  have H3 := Lib.hid (fun W (hy : Ext [] w W) => light_walk x t 60 W (hx.ext hy) hxl)
  obtain ⟨ub, uc, rfl, huc, -⟩ := id hu
  obtain ⟨vb, vc, rfl, hvc, -⟩ := id hv
  obtain ⟨xb, xc, rfl, hxc, -⟩ := id hx
  obtain ⟨n, hn⟩ : ∃ n, names.length = n := ⟨_, rfl⟩
  obtain ⟨m, hm⟩ : ∃ m, ls.length = m := ⟨_, rfl⟩
  obtain ⟨tl, htl⟩ : ∃ tl, t.length = tl := ⟨_, rfl⟩
  cases hlt : lightT ls 20 60 with
  | false =>
    rw [hlt] at H2
    rw [hn] at hun ⊢
    rw [hm] at hvn H2 ⊢
    rw [htl] at hxl ⊢
    clear hlt hu hv hx hus hvl huc hvc hxc hn hm htl H3
    go_enter Tryd.func6, Tryd.ntmps6
    go_wp2_with fail
    refine (H1.out _).mono ?_
    rintro e w1 ⟨rfl, hx1⟩
    have HX1 := Lib.hid hx1
    clear hx1
    go_wp2_with fail
    refine (H2.out _ HX1.out).mono ?_
    rintro e w2 ⟨rfl, rfl⟩
    go_wp2_with fail
    go_ret
    exact ⟨rfl, HX1.out⟩
  | true =>
  rw [hlt] at H2
  obtain ⟨hm20, hll⟩ := lightT_facts hlt
  rw [hm] at hm20
  by_cases hn20 : 20 < n
  · have hz : (20 : Int) < (n : Int) := by omega
    rw [hn] at hun ⊢
    rw [hm] at hvn H2 ⊢
    rw [htl] at hxl ⊢
    clear hlt hu hv hx hus hvl huc hvc hxc hn hm htl H3 hll
    go_enter Tryd.func6, Tryd.ntmps6
    go_wp2_with fail
    refine (H1.out _).mono ?_
    rintro e w1 ⟨rfl, hx1⟩
    have HX1 := Lib.hid hx1
    clear hx1
    go_wp2_with fail
    refine (H2.out _ HX1.out).mono ?_
    rintro e w2 ⟨rfl, rfl⟩
    go_wp2_with fail
    go_ret
    exact ⟨rfl, HX1.out⟩
  by_cases hs300 : 300 < nm.size
  · have hz : ¬ (20 : Int) < (n : Int) := by omega
    have hz2 : (300 : Int) < (nm.size : Int) := by omega
    rw [hn] at hun ⊢
    rw [hm] at hvn H2 ⊢
    rw [htl] at hxl ⊢
    clear hlt hu hv hx hus hvl huc hvc hxc hn hm htl H3 hll
    go_enter Tryd.func6, Tryd.ntmps6
    go_wp2_with fail
    refine (H1.out _).mono ?_
    rintro e w1 ⟨rfl, hx1⟩
    have HX1 := Lib.hid hx1
    clear hx1
    go_wp2_with fail
    refine (H2.out _ HX1.out).mono ?_
    rintro e w2 ⟨rfl, rfl⟩
    go_wp2_with fail
    go_ret
    exact ⟨rfl, HX1.out⟩
  cases hlx : lightL t 60 with
  | false =>
    rw [hlx] at H3
    have hz : ¬ (20 : Int) < (n : Int) := by omega
    have hz2 : ¬ (300 : Int) < (nm.size : Int) := by omega
    rw [hn] at hun ⊢
    rw [hm] at hvn H2 ⊢
    rw [htl] at hxl H3 ⊢
    clear hlt hu hv hx hus hvl huc hvc hxc hn hm htl hll hlx
    go_enter Tryd.func6, Tryd.ntmps6
    go_wp2_with fail
    refine (H1.out _).mono ?_
    rintro e w1 ⟨rfl, hx1⟩
    have HX1 := Lib.hid hx1
    clear hx1
    go_wp2_with fail
    refine (H2.out _ HX1.out).mono ?_
    rintro e w2 ⟨rfl, rfl⟩
    go_wp2_with fail
    refine (H3.out _ HX1.out).mono ?_
    rintro e w3 ⟨rfl, rfl⟩
    go_wp2_with fail
    go_ret
    exact ⟨rfl, HX1.out⟩
  | true =>
  rw [hlx] at H3
  have hLt : Lt t := (light_lt hlx (by omega)).1
  have h6 : light6 ls := fun l hl => ⟨by have := (hll l hl).1; omega, fun x hx => by have := (hll l hl).2 x hx; omega⟩
  have hz : ¬ (20 : Int) < (n : Int) := by omega
  have hz2 : ¬ (300 : Int) < (nm.size : Int) := by omega
  have H4 := Lib.hid (fun W (hx : Ext [] w W) => array_walk _ ls W (hv.ext hx) (by omega) h6)
  obtain ⟨A, hA⟩ : ∃ A, arrayN ls = A := ⟨_, rfl⟩
  have hAl := array_len (ls := ls)
  rw [hA] at H4 hAl
  have H5 := Lib.hid (fun W (hx : Ext [] w W) => dictX2_walk _ _ names ls W (hu.ext hx) (hv.ext hx) (by omega) (by omega) h6)
  obtain ⟨D, hD⟩ : ∃ D, dictionN names ls = D := ⟨_, rfl⟩
  rw [hD] at H5
  rw [hn, hm] at H5
  rw [hm] at H4
  have HH := Lib.hid (⟨hu, hv, hn, hm, hll, h6, hA, hD, hx, htl, hLt, hAl⟩ : _ ∧ _ ∧ _ ∧ _ ∧ _ ∧ _ ∧ _ ∧ _ ∧ _ ∧ _ ∧ _ ∧ _)
  rw [hn] at hun huc ⊢
  rw [hm] at hvn H2 hvc ⊢
  rw [htl] at hxl H3 hxc ⊢
  clear hlt hlx hu hv hus hvl hn hm hll h6 hA hD hx htl hLt hAl
  go_enter Tryd.func6, Tryd.ntmps6
  go_wp2_with fail
  refine (H1.out _).mono ?_
  rintro e w1 ⟨rfl, hx1⟩
  have HX1 := Lib.hid hx1
  clear hx1
  go_wp2_with fail
  refine (H2.out _ HX1.out).mono ?_
  rintro e w2 ⟨rfl, rfl⟩
  go_wp2_with fail
  refine (H3.out _ HX1.out).mono ?_
  rintro e w3 ⟨rfl, rfl⟩
  clear H1 H2 H3
  go_wp2_with fail
  refine (H4.out _ HX1.out).mono ?_
  rintro e w2 ⟨va, rfl, hx2, hN2⟩
  have HX2 := Lib.hid (⟨HX1.out.trans hx2, hN2⟩ : _ ∧ _)
  clear hx2 hN2 HX1 H4 hz hz2
  go_upto_if 52 with fail
  obtain ⟨eA, heA⟩ : ∃ e, A.2 = e := ⟨_, rfl⟩
  rw [heA]
  obtain ⟨B, hB⟩ : ∃ B, (eA == 0) = B := ⟨_, rfl⟩
  rw [hB]
  go_cut [11, 12] from 53 to 80 (fun _ _ wx => Ext [] w2 wx)
  case first =>
    cases B with
    | false =>
      go_wp2_with fail
      go_meet
      exact Ext.refl _ _
    | true =>
      have he0 : A.2 = 0 := by rw [heA]; exact beq_iff_eq.1 hB
      obtain ⟨hA1, hA2, hA3⟩ := array_ok (by rw [HH.out.2.2.2.2.2.2.1]; exact he0)
      rw [HH.out.2.2.2.2.2.2.1] at hA1
      have hLa : Lt A.1 := by
        rw [hA1]
        exact whole_lt hA2 (fun l hl x hx => (HH.out.2.2.2.2.2.1 l hl).2 x hx)
      have hIt : itemsN A.1 = ls := by rw [hA1]; exact hA3
      have hCk : checkN A.1 = 0 := by rw [hA1]; exact hA2
      have J1 := Lib.hid (items_walk va A.1 w2 HX2.out.2 hLa)
      rw [hIt] at J1
      have J2 := Lib.hid (fun W (hx : Ext [] w2 W) => check_walk va A.1 W (HX2.out.2.ext hx) hLa.len hLa.s)
      simp only [hCk] at J2
      clear hA1 hA2 hA3 hLa hIt hCk he0 heA hB
      go_wp2_with fail
      refine J1.out.mono ?_
      rintro e w3 ⟨vi, rfl, hx3, hT3⟩
      obtain ⟨ib, ic, rfl, hic, -⟩ := id hT3
      rw [HH.out.2.2.2.1] at hT3 hic ⊢
      have hb : ((m : Int) != (m : Int)) = false := bne_self_eq_false _
      have HX3 := Lib.hid (⟨hx3, hT3⟩ : _ ∧ _)
      clear hx3 hT3 J1
      go_wp2_with fail
      refine (J2.out _ HX3.out.1).mono ?_
      rintro e w4 ⟨rfl, hx4⟩
      have HX4 := Lib.hid (⟨HX3.out.1.trans hx4, HX3.out.2.ext hx4⟩ : _ ∧ _)
      clear hx4 HX3 J2 hb
      go_wp2_with fail
      go_loopg [12] m (fun gg iv wr => ∃ i : Nat, gg + i = m ∧ iv = .int .i64 i ∧ Ext [] w4 wr)
      case atStart => exact ⟨0, by omega, rfl, Ext.refl _ _⟩
      case round =>
        obtain ⟨i, hgi, rfl, hx⟩ := hrel
        by_cases hlt : i < m
        · obtain ⟨gg, rfl⟩ : ∃ gg, gk = gg + 1 := ⟨gk - 1, by omega⟩
          have hltz : (i : Int) < (m : Int) := by omega
          have hil : i < ls.length := by rw [HH.out.2.2.2.1]; exact hlt
          obtain ⟨b8, o8, k8, rfl, c8, n8⟩ := (trees_row (HH.out.2.2.2.1 ▸ HH.out.2.1)).2 i hil
          obtain ⟨b9, o9, k9, rfl, c9, n9⟩ := (trees_row HX4.out.2).2 i hil
          have hxw := (HX2.out.1.trans HX4.out.1).trans hx
          have c8 := hxw.cell c8
          have c9 := hx.cell c9
          have n8 := n8.ext hxw
          have n9 := n9.ext hx
          have hle := (HH.out.2.2.2.2.1 _ (List.getElem_mem hil)).1
          generalize ls[i]'hil = q at *
          have JS := Lib.hid (fun (V : Ex wr) => lsame_walk k9 k8 q q V.w (n9.ext V.ext) (n8.ext V.ext) (by omega) (by omega))
          simp only [(sameL_iff _ _).2 rfl] at JS
          have c1 : ∀ V : Ex wr, V.w.cell? ⟨b8, o8 + i, none⟩ = some k8 := fun V => V.cell c8
          have c2 : ∀ V : Ex wr, V.w.cell? ⟨b9, o9 + i, none⟩ = some k9 := fun V => V.cell c9
          obtain ⟨kb8, kc8, rfl, -, -⟩ := id n8
          obtain ⟨kb9, kc9, rfl, -, -⟩ := id n9
          have HX := Lib.hid hx
          clear hx hxw c8 c9 n8 n9
          go_upto_region 13 with (fail)
          refine wp_region_ext (by kernel_rfl) (by kernel_rfl) ?_
          repeat (go_big_quiet_step (first | (go_at_call 14; refine Calls.ext_of (JS.out _))))
          refine wpQuiet_nil ?_
          rintro _ ⟨V, rfl⟩
          have HV := Lib.hid (HX.out.trans V.ext)
          generalize V.w = U at *
          clear c1 c2 JS
          go_wp2_with fail
          go_roundg gg
          case measure => omega
          case rel => exact ⟨i + 1, by omega, by go_num, HV.out⟩
        · obtain rfl : gk = 0 := by omega
          have hltz : ¬ (i : Int) < (m : Int) := by omega
          have HX := Lib.hid hx
          clear hx
          go_wp2_with fail
          go_meet
          exact HX4.out.1.trans HX.out
  case rest =>
  have HX3 := Lib.hid (HX2.out.1.trans hcut)
  clear hcut hB heA HX2
  go_wp2_with fail
  refine (H5.out _ HX3.out).mono ?_
  rintro e w3 ⟨vd, rfl, hx4, hN4⟩
  have HX4 := Lib.hid (⟨HX3.out.trans hx4, hN4⟩ : _ ∧ _)
  clear hx4 hN4 HX3 H5
  obtain ⟨eD, heD⟩ : ∃ e, D.2 = e := ⟨_, rfl⟩
  rw [heD]
  obtain ⟨db, dc, rfl, -, -⟩ := id HX4.out.2
  by_cases h0 : eD = 0
  case neg =>
    have hb : (eD != 0) = true := bne_iff_ne.2 h0
    have hd0 : D.1.length = 0 := by
      have := diction_bad (names := names) (ls := ls) (by rw [HH.out.2.2.2.2.2.2.2.1, heD]; exact h0)
      rw [HH.out.2.2.2.2.2.2.2.1] at this
      rw [this]
      rfl
    rw [hd0]
    have HX5 := Lib.hid HX4.out.1
    clear heD h0 hd0 HX4
    go_wp2_with fail
    go_ret
    exact ⟨rfl, HX5.out⟩
  case pos =>
  subst h0
  obtain ⟨P, hPz⟩ : ∃ P, names.zip ls = P := ⟨_, rfl⟩
  have hdict := diction_ok (names := names) (ls := ls) (by rw [HH.out.2.2.2.2.2.2.2.1]; exact heD)
  rw [HH.out.2.2.2.2.2.2.2.1, hPz, HH.out.2.2.1, HH.out.2.2.2.1] at hdict
  obtain ⟨hnm2, hok, hnd, hck, hDw⟩ := hdict
  subst hnm2
  have hPl : P.length = n := by rw [← hPz, List.length_zip, HH.out.2.2.1, HH.out.2.2.2.1, Nat.min_self]
  have hPs : ∀ p ∈ P, p.1.size ≤ 1000000 ∧ ∀ x ∈ p.2, x.s.size ≤ 1000000 := fun p hp => by
    have h3 := name_small (hok p hp).name
    rw [← hPz] at hp
    obtain ⟨h1, h2⟩ := List.of_mem_zip (a := p.1) (b := p.2) hp
    exact ⟨h3, fun x hx => by have := (HH.out.2.2.2.2.1 _ h2).2 x hx; omega⟩
  have hsPs : ∀ p ∈ srt P, p.1.size ≤ 1000000 ∧ ∀ x ∈ p.2, x.s.size ≤ 1000000 := fun p hp => hPs p ((srt_perm P).mem_iff.1 hp)
  rw [hDw] at HX4 ⊢
  simp only at HX4 ⊢
  obtain ⟨d, hdw⟩ : ∃ d, wd (srt P) = d := ⟨_, rfl⟩
  have hLd : Lt d := by rw [← hdw]; exact wd_lt hck hsPs
  have hent : (entsN d nm).length ≤ 999 := by
    rw [← hdw, show entsN (wd (srt P)) nm = butE (srt P) nm from ents_whole hck nm]
    have h1 := but_len (srt P) nm
    rw [(srt_perm _).length_eq, hPl] at h1
    omega
  obtain ⟨T, hT⟩ : ∃ T, setN d nm t = T := ⟨_, rfl⟩
  obtain ⟨dl, hdl⟩ : ∃ dl, d.length = dl := ⟨_, rfl⟩
  have hdl9 : dl ≤ 65536 := by rw [← hdl, ← hdw]; exact wd_size hck
  rw [hdw] at HX4
  rw [hdw, hdl]
  have HN4 := Lib.hid (hdl ▸ HX4.out.2 : NodesAt w3 (.slice db dl dc) d)
  have K1 := Lib.hid (set2_walk (.slice db dl dc) (.slice xb tl xc) d t nm w3 HN4.out (HH.out.2.2.2.2.2.2.2.2.2.1 ▸ HH.out.2.2.2.2.2.2.2.2.1.ext HX4.out.1) hLd HH.out.2.2.2.2.2.2.2.2.2.2.1 (by omega) hent)
  rw [hT] at K1
  have K2 := Lib.hid (fun (s : ByteArray) W (hx : Ext [] w3 W) => get_walk (.slice db dl dc) d s W (HN4.out.ext hx) hLd)
  have K3 := Lib.hid (fun W (hx : Ext [] w3 W) => check_walk (.slice db dl dc) d W (HN4.out.ext hx) hLd.len hLd.s)
  have hckd : checkN d = 0 := by rw [← hdw]; exact hck
  simp only [hckd] at K3
  have K4 := Lib.hid (fun W (hx : Ext [] w3 W) => names_walk (.slice db dl dc) d W (HN4.out.ext hx) hLd)
  have hnl : (namesN d).length = n := by rw [← hdw, names_count hck, hPl]
  have K5 := Lib.hid (fun W (hx : Ext [] w3 W) => drop2_walk (.slice db dl dc) d nm W (HN4.out.ext hx) hLd hent)
  have KS := Lib.hid (fun (a b : Value) (q : List Nd) W (h1 : NodesAt W a q) (h2 : NodesAt W b q) (h3 : q.length ≤ 9223372036854775807) => lsame_walk a b q q W h1 h2 h3 h3)
  simp only [(sameL_iff _ _).2 rfl] at KS
  have HP := Lib.hid (⟨hok, hnd, hck, hPl, hPs, hPz, hdw, hT, hnl, hdl9⟩ : _ ∧ _ ∧ _ ∧ _ ∧ _ ∧ _ ∧ _ ∧ _ ∧ _ ∧ _)
  have HX5 := Lib.hid HX4.out.1
  clear hok hnd hck hPl hPs hsPs hPz hdw hT hnl hdl hckd hLd hent hDw heD HX4 hdl9
  go_wp2_with fail
  refine K1.out.mono ?_
  rintro e w4 ⟨vs, rfl, hx6, hN6⟩
  obtain ⟨eT, heT⟩ : ∃ e, T.2 = e := ⟨_, rfl⟩
  obtain ⟨sb, sc, rfl, -, -⟩ := id hN6
  obtain ⟨sl, hsl⟩ : ∃ sl, T.1.length = sl := ⟨_, rfl⟩
  rw [hsl] at hN6
  rw [heT, hsl]
  have HX6 := Lib.hid (⟨hx6, hN6⟩ : _ ∧ _)
  have HE := Lib.hid (⟨heT, hsl⟩ : _ ∧ _)
  clear hx6 hN6 K1 heT hsl
  -- what is told of the second dict
  have hSO : eT = 0 → SetOk P nm t := fun h => set_ok HP.out.1 HP.out.2.1 HP.out.2.2.1 (by rw [HP.out.2.2.2.2.2.2.1, HP.out.2.2.2.2.2.2.2.1, HE.out.1]; exact h)
  have hT1 : eT = 0 → T.1 = wd (srt (setE P nm t)) := fun h => by
    have := (hSO h).is
    rw [HP.out.2.2.2.2.2.2.1, HP.out.2.2.2.2.2.2.2.1] at this
    rw [this]
  have hLs : eT = 0 → Lt T.1 := fun h => by
    rw [hT1 h]
    refine wd_lt (hSO h).check (fun p hp => ?_)
    have hp := (srt_perm _).mem_iff.1 hp
    rw [setE, List.mem_append] at hp
    rcases hp with hp | hp
    · exact HP.out.2.2.2.2.1 p ((srt_perm P).mem_iff.1 (mem_but.1 hp).1)
    · obtain rfl : p = (nm, t) := by simpa using hp
      exact ⟨by show nm.size ≤ _; omega, HH.out.2.2.2.2.2.2.2.2.2.2.1.s⟩
  have hsl9 : sl ≤ 65536 := by
    by_cases h : eT = 0
    · rw [← HE.out.2, hT1 h]
      exact wd_size (hSO h).check
    · have := set_bad (P := P) HP.out.2.2.1 (s := nm) (v := t) (by rw [HP.out.2.2.2.2.2.2.1, HP.out.2.2.2.2.2.2.2.1, HE.out.1]; exact h)
      rw [HP.out.2.2.2.2.2.2.1, HP.out.2.2.2.2.2.2.2.1] at this
      rw [← HE.out.2, this]
      exact Nat.zero_le _
  have HSO := Lib.hid (⟨hSO, hT1, hLs⟩ : _ ∧ _ ∧ _)
  clear hSO hT1 hLs
  go_wp2_with fail
  go_loopg [17, 18, 19, 20, 21] n (fun gg iv _ _ _ _ wr => ∃ i : Nat, gg + i = n ∧ iv = .int .i64 i ∧ Ext [] w4 wr)
  case atStart => exact ⟨0, by omega, rfl, Ext.refl _ _⟩
  case round =>
    obtain ⟨i, hgi, rfl, hx⟩ := hrel
    by_cases hlt : i < n
    · obtain ⟨gg, rfl⟩ : ∃ gg, gk = gg + 1 := ⟨gk - 1, by omega⟩
      have hltz : (i : Int) < (n : Int) := by omega
      have hjn : i < names.length := by rw [HH.out.2.2.1]; exact hlt
      have hjl : i < ls.length := by rw [HH.out.2.2.2.1]; exact hlt
      have hPj : P[i]? = some (names[i]'hjn, ls[i]'hjl) := by
        rw [← HP.out.2.2.2.2.2.1, List.getElem?_eq_getElem (by rw [List.length_zip]; omega), List.getElem_zip]
      have hmem := List.mem_of_getElem? hPj
      obtain ⟨b9, o9, rfl, c9⟩ := (strs_vals (HH.out.2.2.1 ▸ HH.out.1)).2.2 i _ (by rw [stC, List.getElem?_map, List.getElem?_eq_getElem hjn]; rfl)
      obtain ⟨b8, o8, vk, rfl, c8, n8⟩ := (trees_row (HH.out.2.2.2.1 ▸ HH.out.2.1)).2 i hjl
      obtain ⟨kb, kc, rfl, -, -⟩ := id n8
      have hg := back_get HP.out.2.1 HP.out.2.2.1 hmem
      rw [HP.out.2.2.2.2.2.2.1] at hg
      simp only at hg
      have hqle := (HH.out.2.2.2.2.1 _ (List.getElem_mem hjl)).1
      generalize names[i]'hjn = s at *
      generalize ls[i]'hjl = q at *
      obtain ⟨ql, hql⟩ : ∃ ql, q.length = ql := ⟨_, rfl⟩
      rw [hql] at n8 c8
      have HR := Lib.hid (⟨hx, c9, c8, n8, hg, hmem, hql⟩ : _ ∧ _ ∧ _ ∧ _ ∧ _ ∧ _ ∧ _)
      have hw1 := HX5.out.trans (HX6.out.1.trans hx)
      have c9 := hw1.cell c9
      have c8 := hw1.cell c8
      clear hx hg hmem hql n8 hPj
      go_wp2_with fail
      refine (K2.out s wr (HX6.out.1.trans HR.out.1)).mono ?_
      rintro e w5 ⟨v5, rfl, hx7, hN7⟩
      rw [HR.out.2.2.2.2.1] at hN7 ⊢
      simp only [Option.isSome_some, Option.getD_some] at hN7 ⊢
      have HX7 := Lib.hid (⟨HR.out.1.trans hx7, hN7⟩ : _ ∧ _)
      have hw2 := HX5.out.trans (HX6.out.1.trans HX7.out.1)
      have c9 := hw2.cell HR.out.2.1
      have c8 := hw2.cell HR.out.2.2.1
      have n8 := HR.out.2.2.2.1.ext hw2
      obtain ⟨fb, fc, rfl, -, -⟩ := id hN7
      have JS := Lib.hid (KS.out _ (.slice kb ql kc) q w5 HX7.out.2 n8 (by omega))
      clear hx7 hN7 hw1 n8
      go_wp2_with fail
      refine JS.out.mono ?_
      rintro e w6 ⟨rfl, hx8⟩
      have HX8 := Lib.hid (HX7.out.1.trans hx8)
      have hw3 := HX5.out.trans (HX6.out.1.trans HX8.out)
      have c9 := hw3.cell HR.out.2.1
      clear hx8 HX7 JS c8 hw2
      by_cases hg0 : eT = 0
      case neg =>
        have hb : (eT != 0) = true := bne_iff_ne.2 hg0
        go_wp2_with fail
        go_roundg gg
        case measure => omega
        case rel => exact ⟨i + 1, by omega, by go_num, HX8.out⟩
      case pos =>
      have hSO := HSO.out.1 hg0
      have hT1 := HSO.out.2.1 hg0
      have hLs := HSO.out.2.2 hg0
      subst hg0
      by_cases hsn : s = nm
      · have hb : (s.toList == nm.toList) = true := by rw [hsn]; simp
        clear hSO hT1 hLs hsn
        go_wp2_with fail
        go_roundg gg
        case measure => omega
        case rel => exact ⟨i + 1, by omega, by go_num, HX8.out⟩
      · have hb : (s.toList == nm.toList) = false := by rw [beq_eq_false_iff_ne, ne_eq, tl_inj]; exact hsn
        have hg2 := hSO.other HR.out.2.2.2.2.2.1 hsn
        rw [← hT1] at hg2
        simp only at hg2
        have M1 := Lib.hid (get_walk (.slice sb sl sc) T.1 s w6 (HX6.out.2.ext HX8.out) hLs)
        rw [hg2] at M1
        simp only [Option.isSome_some, Option.getD_some] at M1
        clear hSO hT1 hLs hsn hg2
        go_wp2_with fail
        refine M1.out.mono ?_
        rintro e w7 ⟨v7, rfl, hx9, hN9⟩
        have HX9 := Lib.hid (⟨HX8.out.trans hx9, hN9⟩ : _ ∧ _)
        have hw4 := HX5.out.trans (HX6.out.1.trans HX9.out.1)
        have c8 := hw4.cell HR.out.2.2.1
        have n8 := HR.out.2.2.2.1.ext hw4
        obtain ⟨fb2, fc2, rfl, -, -⟩ := id hN9
        have JS := Lib.hid (KS.out _ (.slice kb ql kc) q w7 HX9.out.2 n8 (by omega))
        clear hx9 hN9 hw3 n8 c9 M1 hb
        go_wp2_with fail
        refine JS.out.mono ?_
        rintro e w8 ⟨rfl, hx10⟩
        have HX10 := Lib.hid (HX9.out.1.trans hx10)
        clear hx10 c8 hw4
        go_wp2_with fail
        go_roundg gg
        case measure => omega
        case rel => exact ⟨i + 1, by omega, by go_num, HX10.out⟩
    · obtain rfl : gk = 0 := by omega
      have hltz : ¬ (i : Int) < (n : Int) := by omega
      have HX7 := Lib.hid (⟨HX6.out.1.trans hx, HX6.out.2.ext hx⟩ : _ ∧ _)
      clear hx hgi hlt HX6
      go_wp2_with fail
      refine (K3.out _ HX7.out.1).mono ?_
      rintro e w5 ⟨rfl, hx8⟩
      have HX8 := Lib.hid (⟨HX7.out.1.trans hx8, HX7.out.2.ext hx8⟩ : _ ∧ _)
      clear hx8 HX7 K3
      go_wp2_with fail
      refine (K4.out _ HX8.out.1).mono ?_
      rintro e w6 ⟨v6, rfl, hx9, hS9⟩
      obtain ⟨nb, nc, rfl, -, -⟩ := id hS9
      rw [HP.out.2.2.2.2.2.2.2.2.1]
      have hb : ((n : Int) != (n : Int)) = false := bne_self_eq_false _
      have HX9 := Lib.hid (⟨HX8.out.1.trans hx9, HX8.out.2.ext hx9⟩ : _ ∧ _)
      clear hx9 hS9 HX8 K4
      by_cases hg0 : eT = 0
      case neg =>
        have hb2 : (eT != 0) = true := bne_iff_ne.2 hg0
        have hs0 : sl = 0 := by
          have := set_bad (P := P) HP.out.2.2.1 (s := nm) (v := t) (by rw [HP.out.2.2.2.2.2.2.1, HP.out.2.2.2.2.2.2.2.1, HE.out.1]; exact hg0)
          rw [HP.out.2.2.2.2.2.2.1, HP.out.2.2.2.2.2.2.2.1] at this
          rw [← HE.out.2, this]
          rfl
        subst hs0
        go_wp2_with fail
        go_ret
        exact ⟨rfl, HX5.out.trans HX9.out.1⟩
      case pos =>
      have hSO := HSO.out.1 hg0
      have hT1 := HSO.out.2.1 hg0
      have hLs := HSO.out.2.2 hg0
      subst hg0
      have hcs : checkN T.1 = 0 := by rw [hT1]; exact hSO.check
      have hgn := hSO.new
      rw [← hT1] at hgn
      have hdr := hSO.drop HP.out.2.2.1
      rw [← hT1, HP.out.2.2.2.2.2.2.1] at hdr
      have hent : (entsN T.1 nm).length ≤ 999 := by
        rw [hT1, show entsN (wd (srt (setE P nm t))) nm = butE (srt (setE P nm t)) nm from ents_whole hSO.check nm]
        have h1 := but_len (srt (setE P nm t)) nm
        have h2 := but_len (srt P) nm
        have h5 : (srt (setE P nm t)).length = (butE (srt P) nm).length + 1 := by rw [(srt_perm _).length_eq, setE, List.length_append]; rfl
        have h6 : (srt P).length = P.length := (srt_perm P).length_eq
        have h3 := HP.out.2.2.2.1
        omega
      have hdl2 : (dropN d nm).length ≤ 9223372036854775807 := by
        rw [← HP.out.2.2.2.2.2.2.1, drop_is HP.out.2.2.1]
        by_cases h : (dictN (butE (srt P) nm)).2 = 0
        · obtain ⟨-, h1, h2⟩ := dictN_ok h
          rw [h2]
          have := wd_size h1
          show (wd _).length ≤ _
          omega
        · rw [dictN_bad h]
          exact Nat.zero_le _
      have M1 := Lib.hid (fun W (hx : Ext [] w3 W) (hN : NodesAt W (.slice sb sl sc) T.1) => get_walk (.slice sb sl sc) T.1 nm W hN hLs)
      rw [hgn] at M1
      simp only [Option.isSome_some, Option.getD_some] at M1
      have M2 := Lib.hid (fun W (hN : NodesAt W (.slice sb sl sc) T.1) => check_walk (.slice sb sl sc) T.1 W hN hLs.len hLs.s)
      simp only [hcs] at M2
      have M3 := Lib.hid (fun W (hN : NodesAt W (.slice sb sl sc) T.1) => drop2_walk (.slice sb sl sc) T.1 nm W hN hLs hent)
      rw [hdr] at M3
      have hnone : getN d nm = none → dropN d nm = d := fun h => by
        rw [← HP.out.2.2.2.2.2.2.1] at h
        have h9 := hSO.drop_none HP.out.2.1 HP.out.2.2.1 h
        rw [← hT1, hdr, HP.out.2.2.2.2.2.2.1] at h9
        exact h9
      have HN := Lib.hid (⟨hnone, hdl2⟩ : _ ∧ _)
      clear hSO hT1 hLs hcs hgn hdr hent hnone hdl2 HSO
      go_wp2_with fail
      refine (M1.out _ HX9.out.1 HX9.out.2).mono ?_
      rintro e w7 ⟨v7, rfl, hx10, hN10⟩
      have HX10 := Lib.hid (⟨HX9.out.1.trans hx10, HX9.out.2.ext hx10, hN10⟩ : _ ∧ _ ∧ _)
      clear hx10 hN10 HX9 M1 hb
      go_wp2_with fail
      refine (K2.out nm _ HX10.out.1).mono ?_
      rintro e w8 ⟨v8, rfl, hx11, hN11⟩
      have HX11 := Lib.hid (⟨HX10.out.1.trans hx11, HX10.out.2.1.ext hx11, HX10.out.2.2.ext hx11⟩ : _ ∧ _ ∧ _)
      obtain ⟨fb, fc, hv7, -, -⟩ := id HX11.out.2.2
      subst hv7
      rw [HH.out.2.2.2.2.2.2.2.2.2.1] at HX11 ⊢
      have nx := HH.out.2.2.2.2.2.2.2.2.1.ext (HX5.out.trans HX11.out.1)
      rw [HH.out.2.2.2.2.2.2.2.2.2.1] at nx
      have JS := Lib.hid (KS.out _ (.slice xb tl xc) t w8 HX11.out.2.2 nx (by rw [HH.out.2.2.2.2.2.2.2.2.2.1]; exact hxl))
      obtain ⟨had, hhad⟩ : ∃ h, getN d nm = h := ⟨_, rfl⟩
      rw [hhad]
      have HHd := Lib.hid hhad
      clear hx11 hN11 HX10 nx hhad
      obtain ⟨Bh, hBh⟩ : ∃ B, had.isSome = B := ⟨_, rfl⟩
      rw [hBh]
      have HBh := Lib.hid hBh
      clear hBh
      go_wp2_with fail
      refine JS.out.mono ?_
      rintro e w9 ⟨rfl, hx12⟩
      have HX12 := Lib.hid (⟨HX11.out.1.trans hx12, HX11.out.2.1.ext hx12⟩ : _ ∧ _)
      clear hx12 HX11 JS
      go_wp2_with fail
      refine (M2.out _ HX12.out.2).mono ?_
      rintro e w10 ⟨rfl, hx13⟩
      have HX13 := Lib.hid (⟨HX12.out.1.trans hx13, HX12.out.2.ext hx13⟩ : _ ∧ _)
      clear hx13 HX12 M2
      go_wp2_with fail
      refine (M3.out _ HX13.out.2).mono ?_
      rintro e w11 ⟨v11, rfl, hx14, hN14⟩
      have HX14 := Lib.hid (⟨HX13.out.1.trans hx14, HX13.out.2.ext hx14, hN14⟩ : _ ∧ _ ∧ _)
      clear hx14 hN14 HX13
      obtain ⟨pb, pc, rfl, -, -⟩ := id HX14.out.2.2
      go_wp2_with fail
      refine (K5.out _ HX14.out.1).mono ?_
      rintro e w12 ⟨v12, rfl, hx15, hN15⟩
      have HX15 := Lib.hid (⟨HX14.out.1.trans hx15, HX14.out.2.1.ext hx15, HX14.out.2.2.ext hx15, hN15⟩ : _ ∧ _ ∧ _ ∧ _)
      clear hx15 hN15 HX14
      obtain ⟨qb, qc, rfl, -, -⟩ := id HX15.out.2.2.2
      have JS := Lib.hid (KS.out _ _ _ w12 HX15.out.2.2.1 HX15.out.2.2.2 HN.out.2)
      go_wp2_with fail
      refine JS.out.mono ?_
      rintro e w13 ⟨rfl, hx16⟩
      have HX16 := Lib.hid (⟨HX15.out.1.trans hx16, HX15.out.2.1.ext hx16⟩ : _ ∧ _)
      clear hx16 HX15 JS
      cases Bh with
      | true =>
        go_wp2_with fail
        go_ret
        exact ⟨rfl, HX5.out.trans HX16.out.1⟩
      | false =>
        have hno : getN d nm = none := by
          rw [HHd.out]
          have := HBh.out
          cases had with
          | none => rfl
          | some z => cases this
        have hde := HN.out.1 hno
        rw [hde] at M3
        clear hno HN
        go_wp2_with fail
        refine (M3.out _ HX16.out.2).mono ?_
        rintro e w14 ⟨v14, rfl, hx17, hN17⟩
        have HX17 := Lib.hid (⟨HX16.out.1.trans hx17, hN17⟩ : _ ∧ _)
        clear hx17 hN17 HX16
        have JS := Lib.hid (KS.out _ _ _ w14 HX17.out.2 (HN4.out.ext HX17.out.1) (by obtain ⟨h9, -⟩ := HN4.out.choose_spec; have := HP.out.2.2.2.2.2.2.2.2.2; rw [show d.length = dl from by obtain ⟨b, c, e, -, -⟩ := HN4.out; cases e; rfl]; omega))
        obtain ⟨rb, rc, rfl, -, -⟩ := id HX17.out.2
        go_wp2_with fail
        refine JS.out.mono ?_
        rintro e w15 ⟨rfl, hx18⟩
        have HX18 := Lib.hid (HX17.out.1.trans hx18)
        clear hx18 HX17 JS
        go_wp2_with fail
        go_ret
        exact ⟨rfl, HX5.out.trans HX18.out⟩
end Go.Proofs.YtkjcjklnclahdaaDoor.Tr
