/-
  tree: Dict walked, of names of whatever length.
-/
import Derived.Test.YtkjcjklnclahdaaDoorTtM
namespace Go.Proofs.YtkjcjklnclahdaaDoor.Tr
open Go.RowKit

theorem name_small {s : ByteArray} (h : nameN s = 0) : s.size ≤ 1000000 := by
  unfold nameN at h
  split at h
  · cases h
  · omega
set_option maxRecDepth 100000 in
set_option maxHeartbeats 8000000 in
theorem dictX2_walk (u v : Value) (names : List ByteArray) (ls : List (List Nd)) (w : World) (hu : StrsAt w u names) (hv : TreesAt w v ls) (hn : names.length ≤ 20) (hnl : ls.length ≤ 1048576) (hls : light6 ls) :
    Calls Tryd.prog 12 #[u, v] w fun e w' => ∃ v2, e = .returned (.tuple #[v2, .int .i64 (dictionN names ls).2]) ∧ Ext [] w w' ∧ NodesAt w' v2 (dictionN names ls).1 := by
  obtain ⟨i0, hif, hz0, hz1, hz2⟩ := info_parts infoEntry
  have HC := Lib.hid (cont_walk u names w hu (by omega))
  have HF := Lib.hid (fun w1 (hx : Ext [] w w1) => first_walk v ls w1 (hv.ext hx) hnl hls)
  obtain ⟨R, hR⟩ : ∃ R, dictionN names ls = R := ⟨_, rfl⟩
  rw [hR]
  rw [dictionN] at hR
  obtain ⟨ub, uc, rfl, -, hU⟩ := hu
  obtain ⟨vb, vc, rfl, -, hT⟩ := hv
  obtain ⟨n, hnn⟩ : ∃ n, names.length = n := ⟨_, rfl⟩
  obtain ⟨m, hm⟩ : ∃ m, ls.length = m := ⟨_, rfl⟩
  have HH := Lib.hid (⟨hU, hT, hnn, hm, trivial, hls⟩ : _ ∧ _ ∧ _ ∧ _ ∧ True ∧ _)
  rw [hnn] at hn HC hR ⊢
  rw [hm] at hnl hR HF ⊢
  clear hU hT hnn hm hls
  by_cases hnm : n = m
  case neg =>
    rw [if_pos (.inl hnm)] at hR
    subst hR
    have hb : ((n : Int) != (m : Int)) = true := bne_iff_ne.2 (by omega)
    clear HC HF
    go_enter Tryd.func12, Tryd.ntmps12
    go_wp2_with fail
    go_ret2
    exact ⟨_, rfl, Ext.refl _ _, none, 0, rfl, by simp, fun k hk => by cases hk⟩
  case pos =>
  subst hnm
  have hb : ((n : Int) != (n : Int)) = false := bne_self_eq_false _
  cases hbad : names.any (fun s => decide (nameN s ≠ 0)) with
  | true =>
    rw [hbad] at HC
    rw [if_pos (.inr hbad)] at hR
    subst hR
    clear HF hbad
    go_enter Tryd.func12, Tryd.ntmps12
    go_wp2_with fail
    refine HC.out.mono ?_
    rintro ee w2 ⟨rfl, hx2⟩
    have HX2 := Lib.hid hx2
    clear hx2 HC
    go_wp2_with fail
    go_ret2
    exact ⟨_, rfl, HX2.out, none, 0, rfl, by simp, fun k hk => by cases hk⟩
  | false =>
  rw [hbad] at HC
  rw [if_neg (by rw [hbad]; simp)] at hR
  have HBAD := Lib.hid hbad
  obtain ⟨f, hf⟩ : ∃ f, firstN ls = f := ⟨_, rfl⟩
  rw [hf] at hR HF
  have HFE := Lib.hid hf
  clear hbad hf
  by_cases hf0 : f = 0
  case neg =>
    rw [if_pos hf0] at hR
    subst hR
    have hfb : (f != 0) = true := bne_iff_ne.2 hf0
    clear hf0
    go_enter Tryd.func12, Tryd.ntmps12
    go_wp2_with fail
    refine HC.out.mono ?_
    rintro ee w2 ⟨rfl, hx2⟩
    have HX2 := Lib.hid hx2
    have HF2 := Lib.hid (HF.out w2 hx2)
    clear hx2 HC HF
    go_wp2_with fail
    refine HF2.out.mono ?_
    rintro ee w3 ⟨rfl, hx3⟩
    have HX3 := Lib.hid (HX2.out.trans hx3)
    clear hx3 HF2 HX2
    go_wp2_with fail
    go_ret2
    exact ⟨_, rfl, HX3.out, none, 0, rfl, by simp, fun k hk => by cases hk⟩
  case pos =>
  subst hf0
  rw [if_neg (by simp)] at hR
  have HR := Lib.hid hR
  clear hR
  go_enter Tryd.func12, Tryd.ntmps12
  go_wp2_with fail
  refine HC.out.mono ?_
  rintro ee w2 ⟨rfl, hx2⟩
  have HX2 := Lib.hid hx2
  have HF2 := Lib.hid (HF.out w2 hx2)
  clear hx2 HC HF
  go_wp2_with fail
  refine HF2.out.mono ?_
  rintro ee w3 ⟨rfl, hx3⟩
  have S := ((Sep.start w).quiet (HX2.out.trans hx3)).new (Ext.refl _ _) (oEt (.slice none 0 0) []) (World.ownsRow_nil _ _ _ _) (fun q hq => by simp [oEt, oSl, Value.ownBlock] at hq)
  have HS := Lib.hid S
  clear hx3 HF2 HX2 S
  go_wp2_with fail
  go_loopg [7, 8, 9, 26] n (fun g ov v8 v9 iv wr => ∃ (i : Nat) (P : List (Et × List Nd)), g + i = n ∧ iv = .int .i64 i ∧ P.length = i ∧ P.map (fun p => (p.1.1, p.2)) = (names.zip ls).take i ∧ (∀ p ∈ P, NodesAt w (slC p.1.2) p.2) ∧ Sep w wr [oEt ov (P.map (·.1))])
  case atStart => exact ⟨0, [], by omega, rfl, rfl, rfl, by simp, HS.out⟩
  case round =>
    clear HS
    obtain ⟨i, P, hgi, rfl, hP, hPm, hN, S⟩ := hrel
    have hr0 : wr.ownsRow 0 67 2 u7 (P.map (·.1)).length (etC (P.map (·.1))) := S.get 0 rfl
    rw [List.length_map, hP] at hr0
    obtain ⟨ao4, cap4, rfl⟩ := row_slice hr0
    by_cases hlt : i < n
    · obtain ⟨g, rfl⟩ : ∃ g, gk = g + 1 := ⟨gk - 1, by omega⟩
      have hltz : (i : Int) < (n : Int) := by omega
      have hil : i < names.length := by rw [HH.out.2.2.1]; exact hlt
      have hil2 : i < ls.length := by rw [HH.out.2.2.2.1]; exact hlt
      obtain ⟨b5, o5, rfl, c5⟩ := HH.out.1 i hil
      obtain ⟨b6, o6, vk, rfl, c6, hNk⟩ := HH.out.2.1 i hil2
      obtain ⟨xa, xc, rfl, hxc, hxN⟩ := hNk
      have c5 := S.ext.cell c5
      have c6 := S.ext.cell c6
      have hzl : i < (names.zip ls).length := by rw [List.length_zip]; omega
      have htk : (names.zip ls).take (i + 1) = (names.zip ls).take i ++ [(names[i]'hil, ls[i]'hil2)] := by rw [List.take_succ_eq_append_getElem hzl, List.getElem_zip]
      obtain ⟨X, hX⟩ : ∃ X, (ls[i]'hil2).length = X := ⟨_, rfl⟩
      have hNk : NodesAt w (.slice xa X xc) (ls[i]'hil2) := ⟨_, _, by rw [hX], hxc, hxN⟩
      rw [hX] at c6
      generalize names[i]'hil = nm at *
      generalize ls[i]'hil2 = xt at *
      have HX := Lib.hid (⟨S, hP, hPm, hN, hr0, htk, hNk⟩ : _ ∧ _ ∧ _ ∧ _ ∧ _ ∧ _ ∧ _)
      clear S hP hPm hN hr0 htk hNk hxN hX hxc
      go_wp2_with (first | (at_builtin; refine wpList_append_lies _ rfl _ _ 65 rfl 0 67 i0 _ 2 40 Tryd.underlying65 hif hz0 hz1 hz2 rfl (by decide) (.slice ao4 i cap4) i _ rfl (World.ownsRow.alloc HX.out.2.2.2.2.1 _) ⟨wr.heap.size, 0, none⟩ 1 1 [.string nm, .slice xa X xc] rfl rfl (cells_two _ _ _ _) (by simp [Value.oneCell']) (by decide) (by unfold maxLen; omega) (by omega) (by omega) (wr.heap.size + 1) (by simp) ?_; intro g6 cap2 w6 hown1 hgrow hat6 hlt6))
      have Pl := push_local (cap := cap2) (n := i + 1) hgrow hat6
      have S2 := HX.out.1.upd 0 (oEt (.slice (some ⟨g6, 0, none⟩) (i + 1) cap2) ((P ++ [((nm, xa, X, xc), xt)]).map (·.1))) rfl Pl.1 Pl.2 (by
        show World.ownsRow _ 0 67 2 _ _ _
        rw [List.length_map, List.length_append, HX.out.2.1, List.map_append, etC_append]
        exact hown1)
      go_roundg g
      case measure => omega
      case rel =>
        refine ⟨i + 1, P ++ [((nm, xa, X, xc), xt)], by omega, by go_num, by rw [List.length_append, HX.out.2.1]; rfl, by rw [List.map_append, HX.out.2.2.1, HX.out.2.2.2.2.2.1]; rfl, fun p hp => ?_, S2⟩
        rcases List.mem_append.1 hp with hp | hp
        · exact HX.out.2.2.2.1 p hp
        · obtain rfl : p = ((nm, xa, X, xc), xt) := by simpa using hp
          exact HX.out.2.2.2.2.2.2
    · obtain rfl : gk = 0 := by omega
      obtain rfl : i = n := by omega
      have hall : (names.zip ls).take i = names.zip ls := List.take_of_length_le (by rw [List.length_zip, HH.out.2.2.1, HH.out.2.2.2.1]; omega)
      rw [hall] at hPm
      have hmemz : ∀ p ∈ P, p.1.1 ∈ names ∧ p.2 ∈ ls := fun p hp => by
        have : (p.1.1, p.2) ∈ names.zip ls := by rw [← hPm]; exact List.mem_map_of_mem (f := fun p : Et × List Nd => (p.1.1, p.2)) hp
        exact ⟨(List.of_mem_zip this).1, (List.of_mem_zip this).2⟩
      have hD := dict_walk w wr _ 0 _ P S rfl (by omega) (fun W o hS p hp => (hN p hp).ext hS.ext) (fun p hp => by
        obtain ⟨h1, h2⟩ := hmemz p hp
        have hb2 := HBAD.out
        rw [List.any_eq_false] at hb2
        refine ⟨name_small (by simpa using hb2 _ h1), by simpa using hb2 _ h1, firstN_zero HFE.out _ h2, (HH.out.2.2.2.2.2 _ h2).2⟩)
      rw [hPm, HR.out] at hD
      have HD := Lib.hid hD
      clear hD S hPm hN hr0 hall hmemz
      go_wp2_with fail
      refine HD.out.mono ?_
      rintro ee w5 ⟨v5, rfl, S5, hN5⟩
      have HF5 := Lib.hid (⟨S5.ext, hN5⟩ : _ ∧ _)
      clear S5 hN5 HD
      go_wp2_with fail
      go_ret2
      exact ⟨_, rfl, HF5.out.1, HF5.out.2⟩
end Go.Proofs.YtkjcjklnclahdaaDoor.Tr
