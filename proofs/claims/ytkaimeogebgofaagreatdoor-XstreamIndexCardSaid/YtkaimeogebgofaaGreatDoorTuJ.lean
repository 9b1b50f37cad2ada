/-
  The document's Set, Drop, One walked.
-/
import Derived.Test.YtkaimeogebgofaaGreatDoorTuI
namespace Go.Proofs.YtkaimeogebgofaaGreatDoor.Tr
open Go.RowKit

theorem diction_ents {names : List ByteArray} {ls : List (List Nd)} {Q : List Ent} (hl : names.length = ls.length) (hz : names.zip ls = Q) (hq : ∀ p ∈ Q, nameN p.1 = 0 ∧ checkN p.2 = 0) : dictionN names ls = dictN Q := by
  have hm1 : (names.zip ls).map (·.1) = names := List.map_fst_zip (by omega)
  have hm2 : (names.zip ls).map (·.2) = ls := List.map_snd_zip (by omega)
  rw [hz] at hm1 hm2
  rw [diction_is hl ?_ ?_, hz]
  · rw [← hm1, List.any_eq_false]
    intro x hx
    obtain ⟨p, hp, rfl⟩ := List.mem_map.1 hx
    simp [(hq p hp).1]
  · rw [← hm2]
    refine (firstN_iff _).2 (fun x hx => ?_)
    obtain ⟨p, hp, rfl⟩ := List.mem_map.1 hx
    exact (hq p hp).2
theorem zip_maps {α β γ : Type} (f : α → β) (g : α → γ) : ∀ l : List α, (l.map f).zip (l.map g) = l.map (fun x => (f x, g x))
  | [] => rfl
  | x :: l => by rw [List.map_cons, List.map_cons, List.zip_cons_cons, zip_maps f g l]; rfl
set_option maxRecDepth 100000 in
set_option maxHeartbeats 2000000 in
theorem set17_walk (u v : Value) (l t : List Nd) (key : ByteArray) (w : World) (hu : NodesAt w u l) (hv : NodesAt w v t) (hl : Lt l) (ht : Lt t) (hks : key.size ≤ 1000000) (hsm : (entsN l key).length ≤ 999) :
    Calls Tryz.prog 7 #[u, .string key, v] w fun e w' => ∃ v2, e = .returned (.tuple #[v2, .int .i64 (setN l key t).2]) ∧ Ext [] w w' ∧ NodesAt w' v2 (setN l key t).1 := by
  obtain ⟨i0, hif, hz0, hz1, hz2⟩ := info_parts infoString17
  obtain ⟨j0, hjf, hy0, hy1, hy2⟩ := info_parts infoNodes
  have HC := Lib.hid (check17_walk u l w hu hl.len hl.s)
  have HT := Lib.hid (fun W (hx : Ext [] w W) => check17_walk v t W (hv.ext hx) ht.len ht.s)
  obtain ⟨R, hR⟩ : ∃ R, setN l key t = R := ⟨_, rfl⟩
  rw [hR]
  rw [setN] at hR
  obtain ⟨c, hc⟩ : ∃ c, checkN l = c := ⟨_, rfl⟩
  obtain ⟨d, hd⟩ : ∃ d, checkN t = d := ⟨_, rfl⟩
  have hf : firstN [l, t] = if c = 0 then (if d = 0 then 0 else d) else c := by rw [firstN, firstN, firstN, hc, hd]
  rw [hf] at hR
  rw [hc] at HC
  rw [hd] at HT
  have hu' := hu
  have hv' := hv
  obtain ⟨ub, uc, rfl, -, hN⟩ := hu'
  obtain ⟨vb, vc, rfl, -, -⟩ := hv'
  obtain ⟨n, hn⟩ : ∃ n, l.length = n := ⟨_, rfl⟩
  obtain ⟨m, hm⟩ : ∃ m, t.length = m := ⟨_, rfl⟩
  have HNM := Lib.hid (⟨hn, hm⟩ : _ ∧ _)
  rw [hn] at hu HC ⊢
  rw [hm] at hv HT ⊢
  have HU := Lib.hid (⟨hu, hv⟩ : _ ∧ _)
  by_cases c0 : c = 0
  case neg =>
    rw [if_neg c0, if_pos c0] at hR
    subst hR
    have hcb : (c != 0) = true := bne_iff_ne.2 c0
    have hcc : (c == 0) = false := beq_eq_false_iff_ne.2 c0
    clear hf hu hv hN c0 hn hm hc hd
    go_enter Tryz.func7, Tryz.ntmps7
    go_wp2_with fail
    refine HC.out.mono ?_
    rintro e w2 ⟨rfl, hx2⟩
    have HX2 := Lib.hid hx2
    clear hx2 HC
    go_wp2_with fail
    go_ret2
    exact ⟨_, rfl, HX2.out, none, 0, rfl, by simp, fun k hk => by cases hk⟩
  case pos =>
  subst c0
  by_cases d0 : d = 0
  case neg =>
    rw [if_pos rfl, if_neg d0, if_pos d0] at hR
    subst hR
    have hdb : (d != 0) = true := bne_iff_ne.2 d0
    clear hf hu hv hN d0 hn hm hc hd
    go_enter Tryz.func7, Tryz.ntmps7
    go_wp2_with fail
    refine HC.out.mono ?_
    rintro e w2 ⟨rfl, hx2⟩
    have HX2 := Lib.hid hx2
    clear hx2 HC
    go_wp2_with fail
    refine (HT.out _ HX2.out).mono ?_
    rintro e w3 ⟨rfl, hx3⟩
    have HX3 := Lib.hid (HX2.out.trans hx3)
    clear hx3 HT
    go_wp2_with fail
    go_ret2
    exact ⟨_, rfl, HX3.out, none, 0, rfl, by simp, fun k hk => by cases hk⟩
  case pos =>
  subst d0
  rw [if_pos rfl, if_pos rfl, if_neg (by simp)] at hR
  obtain ⟨h0, hn9, E, D, hsh, -⟩ := check_zero hc
  obtain ⟨b, o, rfl, n1, -⟩ := node_in hN 0 h0
  rw [Nat.zero_mul, Nat.add_zero, show ((0 : Nat) : Int) = 0 from rfl] at n1
  have h0z : (0 : Int) < (n : Int) := by omega
  have HNm := Lib.hid (fun W => name03_walk key W)
  obtain ⟨z, hz⟩ : ∃ z, nameN key = z := ⟨_, rfl⟩
  simp only [hz] at HNm hR
  obtain ⟨kd, hkd⟩ : ∃ kd, (ndAt l 0).kind = kd := ⟨_, rfl⟩
  rw [hkd] at n1 hR
  have HN1 := Lib.hid n1
  by_cases k8 : kd = 8
  case neg =>
    rw [if_pos (.inl k8)] at hR
    subst hR
    have hkb : (kd != 8) = true := bne_iff_ne.2 k8
    clear hf hu hv hN n1 hkd hz k8 hc hd hsh hn9 h0 hn hm
    go_enter Tryz.func7, Tryz.ntmps7
    go_wp2_with fail
    refine HC.out.mono ?_
    rintro e w2 ⟨rfl, hx2⟩
    have HX2 := Lib.hid hx2
    clear hx2 HC
    go_wp2_with fail
    refine (HT.out _ HX2.out).mono ?_
    rintro e w3 ⟨rfl, hx3⟩
    have n2 := (HX2.out.trans hx3).cell HN1.out
    have HX3 := Lib.hid (HX2.out.trans hx3)
    clear hx3 HT
    go_wp2_with fail
    go_ret2
    exact ⟨_, rfl, HX3.out, none, 0, rfl, by simp, fun k hk => by cases hk⟩
  case pos =>
  subst k8
  have his : isN l 8 = true := by rw [isN]; simp [hc, hkd]
  by_cases z0 : z = 0
  case neg =>
    rw [if_pos (.inr z0)] at hR
    subst hR
    have hzb : (z != 0) = true := bne_iff_ne.2 z0
    clear hf hu hv hN n1 hkd hz z0 hc hd hsh hn9 h0 hn hm his
    go_enter Tryz.func7, Tryz.ntmps7
    go_wp2_with fail
    refine HC.out.mono ?_
    rintro e w2 ⟨rfl, hx2⟩
    have HX2 := Lib.hid hx2
    clear hx2 HC
    go_wp2_with fail
    refine (HT.out _ HX2.out).mono ?_
    rintro e w3 ⟨rfl, hx3⟩
    have n2 := (HX2.out.trans hx3).cell HN1.out
    have HX3 := Lib.hid (HX2.out.trans hx3)
    clear hx3 HT
    go_wp2_with fail
    refine (HNm.out _).mono ?_
    rintro e w4 ⟨rfl, hx4⟩
    have HX4 := Lib.hid (HX3.out.trans hx4)
    clear hx4 n2
    go_wp2_with fail
    go_ret2
    exact ⟨_, rfl, HX4.out, none, 0, rfl, by simp, fun k hk => by cases hk⟩
  case pos =>
  subst z0
  rw [if_neg (by simp)] at hR
  have HE := Lib.hid (fun W (hx : Ext [] w W) => parts17_walk (.slice (some ⟨b, o, none⟩) n uc) l key W (hu.ext hx) his)
  have HP := Lib.hid (fun P hP => ents_P (l := l) (but := key) (P := P) hP his hl)
  have HD := Lib.hid (⟨hR, hsm, hz, hd, ht, hks⟩ : _ ∧ _ ∧ _ ∧ _ ∧ _ ∧ _)
  clear hf hu hv hN n1 hkd hz hc hd hsh hn9 h0 hn hm his hR hsm
  go_enter Tryz.func7, Tryz.ntmps7
  go_wp2_with fail
  refine HC.out.mono ?_
  rintro e w2 ⟨rfl, hx2⟩
  have HX2 := Lib.hid hx2
  clear hx2 HC
  go_wp2_with fail
  refine (HT.out _ HX2.out).mono ?_
  rintro e w3 ⟨rfl, hx3⟩
  have n2 := (HX2.out.trans hx3).cell HN1.out
  have HX3 := Lib.hid (HX2.out.trans hx3)
  clear hx3 HT HX2
  go_wp2_with fail
  refine (HNm.out _).mono ?_
  rintro e w4 ⟨rfl, hx4⟩
  have HX4 := Lib.hid (HX3.out.trans hx4)
  clear hx4 n2 HX3 HNm
  go_wp2_with fail
  refine (HE.out _ HX4.out).mono ?_
  rintro e w5 ⟨nv, av, P, F, rfl, S, hP⟩
  have hPl : P.length ≤ 999 := by have := congrArg List.length hP; rw [List.length_map] at this; have := HD.out.2.1; omega
  have hr0 : w5.ownsRow 0 9 1 nv P.length (stC (P.map (·.1.1))) := S.get 0 rfl
  have hr1 : w5.ownsRow 0 28 1 av P.length (P.map fun p : Et × List Nd => slC p.1.2) := S.get 1 rfl
  obtain ⟨ao3, c3, rfl⟩ := row_slice hr0
  obtain ⟨ao4, c4, rfl⟩ := row_slice hr1
  obtain ⟨q, hq⟩ : ∃ q, P.length = q := ⟨_, rfl⟩
  rw [hq] at hr0 hr1 S hPl ⊢
  have HS := Lib.hid (⟨S, hr0, hP, hq⟩ : _ ∧ _ ∧ _ ∧ _)
  clear S hr0 hr1 hP hq HE
  go_wp2_with (first | (at_builtin; refine wpList_append_lies _ rfl _ _ 49 rfl 0 9 i0 _ 1 16 Tryz.underlying49 hif hz0 hz1 hz2 rfl (by decide) (.slice ao3 q c3) q _ rfl (World.ownsRow.alloc HS.out.2.1 _) ⟨w5.heap.size, 0, none⟩ 1 1 [.string key] rfl rfl (cell_one_new _ _ _) (by simp [Value.oneCell']) (by decide) (by unfold maxLen; omega) (by omega) (by omega) (w5.heap.size + 1) (by simp) ?_; intro g6 cap2 w6 hown1 hgrow hat6 hlt6; have S2 := HS.out.1.upd 0 (oSl 9 1 (.slice (some ⟨g6, 0, none⟩) (q + 1) cap2) (q + 1) (stC (P.map (·.1.1)) ++ [Value.string key])) rfl (push_local (cap := cap2) (n := q + 1) hgrow hat6).1 (push_local (cap := cap2) (n := q + 1) hgrow hat6).2 hown1; have hr1 : w6.ownsRow 0 28 1 (.slice ao4 q c4) q (P.map fun p : Et × List Nd => slC p.1.2) := S2.get 1 rfl; have HS2 := Lib.hid (⟨S2, hr1⟩ : _ ∧ _); clear S2 hr1 hown1 hgrow hat6 hlt6) | (at_builtin; refine wpList_append_lies _ rfl _ _ 50 rfl 0 28 j0 _ 1 24 Tryz.underlying50 hjf hy0 hy1 hy2 rfl (by decide) (.slice ao4 q c4) q _ rfl (World.ownsRow.alloc HS2.out.2 _) ⟨w6.heap.size, 0, none⟩ 1 1 [.slice vb m vc] rfl rfl (cell_one_new _ _ _) (by simp [Value.oneCell']) (by decide) (by unfold maxLen; omega) (by omega) (by omega) (w6.heap.size + 1) (by simp) ?_; intro g7 cap7 w7 hown7 hgrow7 hat7 hlt7))
  have S7 := HS2.out.1.upd 1 (oSl 28 1 (.slice (some ⟨g7, 0, none⟩) (q + 1) cap7) (q + 1) ((P.map fun p : Et × List Nd => slC p.1.2) ++ [Value.slice vb m vc])) rfl (push_local (cap := cap7) (n := q + 1) hgrow7 hat7).1 (push_local (cap := cap7) (n := q + 1) hgrow7 hat7).2 hown7
  have hxw : Ext [] w w7 := HX4.out.trans S7.ext
  have hst : StrsAt w7 (.slice (some ⟨g6, 0, none⟩) (q + 1) cap2) (P.map (·.1.1) ++ [key]) := by
    refine strs_own ?_
    have := S7.get 0 rfl
    rw [List.length_append, List.length_map, HS.out.2.2.2, stC, List.map_append]
    exact this
  have hl1 : (P ++ [(((key, vb, m, vc) : Et), t)]).length = q + 1 := by rw [List.length_append, HS.out.2.2.2]; rfl
  have htr : TreesAt w7 (.slice (some ⟨g7, 0, none⟩) (q + 1) cap7) ((P ++ [(((key, vb, m, vc) : Et), t)]).map (·.2)) := by
    refine trees_own ?_ (fun p hp => ?_)
    · rw [hl1, List.map_append]
      exact S7.get 1 rfl
    · rcases List.mem_append.1 hp with hp | hp
      · exact (S7.get 2 rfl).2 w7 (fun _ _ => rfl) p hp
      · obtain rfl : p = ((key, vb, m, vc), t) := by simpa using hp
        exact HU.out.2.ext hxw
  have hok : ∀ p ∈ entsN l key ++ [(key, t)], nameN p.1 = 0 ∧ checkN p.2 = 0 := fun p hp => by
    rcases List.mem_append.1 hp with hp | hp
    · rw [← HS.out.2.2.1] at hp
      obtain ⟨x, hx, rfl⟩ := List.mem_map.1 hp
      have := HP.out P HS.out.2.2.1 x hx
      exact ⟨this.2.1, this.2.2.1⟩
    · obtain rfl : p = (key, t) := by simpa using hp
      exact ⟨HD.out.2.2.1, HD.out.2.2.2.1⟩
  have hdi : dictionN (P.map (·.1.1) ++ [key]) ((P ++ [(((key, vb, m, vc) : Et), t)]).map (·.2)) = R := by
    rw [diction_ents (Q := entsN l key ++ [(key, t)]) (by simp) ?_ hok, HD.out.1]
    rw [List.map_append, List.zip_append (by simp), zip_maps, ← HS.out.2.2.1]
    rfl
  have hdw := dict17X_walk _ _ _ _ w7 hst htr (by rw [List.length_append, List.length_map, HS.out.2.2.2]; simp; omega) (by rw [List.length_map, hl1]; omega) (fun s hs => by
    rcases List.mem_append.1 hs with hs | hs
    · obtain ⟨x, hx, rfl⟩ := List.mem_map.1 hs
      exact (HP.out P HS.out.2.2.1 x hx).1
    · obtain rfl : s = key := by simpa using hs
      exact HD.out.2.2.2.2.2) (fun x hx => by
    obtain ⟨p, hp, rfl⟩ := List.mem_map.1 hx
    rcases List.mem_append.1 hp with hp | hp
    · have := HP.out P HS.out.2.2.1 p hp
      exact ⟨by have := (check_zero this.2.2.1).2.1; omega, this.2.2.2⟩
    · obtain rfl : p = ((key, vb, m, vc), t) := by simpa using hp
      exact ⟨HD.out.2.2.2.2.1.len, HD.out.2.2.2.2.1.s⟩)
  rw [hdi] at hdw
  have HW := Lib.hid (⟨hdw, hxw⟩ : _ ∧ _)
  clear hdw hst htr S7 hown7 hgrow7 hat7 hlt7 hdi hok hl1 hxw
  refine HW.out.1.mono ?_
  rintro e w8 ⟨v8, rfl, hx8, hN8⟩
  have HFin := Lib.hid (⟨HW.out.2.trans hx8, hN8⟩ : _ ∧ _)
  clear hx8 hN8 HW
  go_wp2_with fail
  go_ret2
  exact ⟨_, rfl, HFin.out.1, HFin.out.2⟩
end Go.Proofs.YtkaimeogebgofaaGreatDoor.Tr
