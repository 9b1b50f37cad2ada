/-
  The document's Depth, Get, Names walked (wip/mktug.py).
-/
import Derived.Test.YtkjcjklnclahdaaGreatDoorTuE
import Derived.Test.YtkjcjklnclahdaaGreatDoorTuF
namespace Go.Proofs.YtkjcjklnclahdaaGreatDoor.Tr
open Go.RowKit

set_option maxRecDepth 100000 in
set_option maxHeartbeats 1000000 in
theorem depth17_walk (v : Value) (l : List Nd) (w : World) (h : NodesAt w v l) (hl : Lt l) :
    Calls Tryz.prog 23 #[v] w fun e w' => e = .returned (.int .i64 (depthN l)) ∧ Ext [] w w' := by
  have HC := Lib.hid (check17_walk v l w h hl.len hl.s)
  obtain ⟨c, hc⟩ : ∃ c, checkN l = c := ⟨_, rfl⟩
  rw [hc] at HC
  by_cases c0 : c = 0
  case neg =>
    have hR : depthN l = 0 := by rw [depthN, hc, if_neg c0]
    rw [hR]
    obtain ⟨base, cap, rfl, -, -⟩ := h
    have hcb : (c != 0) = true := bne_iff_ne.2 c0
    clear hR hc
    go_enter Tryz.func23, Tryz.ntmps23
    go_wp2_with fail
    refine HC.out.mono ?_
    rintro e w1 ⟨rfl, hx⟩
    have HX := Lib.hid hx
    clear hx HC
    go_wp2_with fail
    go_ret
    exact ⟨rfl, HX.out⟩
  case pos =>
  subst c0
  obtain ⟨h0, hn, E, D, hsh, -⟩ := check_zero hc
  obtain ⟨-, -, hD, -, -⟩ := shape_some hsh
  have HS := Lib.hid (fun w1 (hx : Ext [] w w1) => ends_walk v l w1 (h.ext hx) hn)
  rw [hsh] at HS
  obtain ⟨R, hR⟩ : ∃ R, depthN l = R := ⟨_, rfl⟩
  have hR2 : D.foldl max 0 = R := by rw [← hR, depthN, if_pos hc, depsN, hsh]; exact deep_max hsh
  rw [hR]
  obtain ⟨base, cap, rfl, -, -⟩ := h
  obtain ⟨n, hln⟩ : ∃ n, l.length = n := ⟨_, rfl⟩
  have HR := Lib.hid (⟨hR2, hD, hln⟩ : _ ∧ _ ∧ _)
  rw [hln] at HC HS hn hD h0 ⊢
  clear hR hR2 hc hsh hln
  go_enter Tryz.func23, Tryz.ntmps23
  go_wp2_with fail
  refine HC.out.mono ?_
  rintro e w1 ⟨rfl, hx⟩
  have HX := Lib.hid hx
  have HS2 := Lib.hid (HS.out w1 hx)
  clear hx HC HS
  go_wp2_with fail
  refine HS2.out.mono ?_
  rintro e w2 ⟨ev, dv, rfl, hx2, he, ⟨db, dc, rfl, hI⟩⟩
  clear he
  obtain ⟨b2, o2, rfl, -⟩ := hI 0 (by omega)
  have HX2 := Lib.hid (⟨HX.out.trans hx2, hI⟩ : _ ∧ _)
  rw [hD]
  clear hI hx2 HX HS2 hD
  go_wp2_with fail
  go_loopg [6, 7] n (fun g mv iv wr => ∃ (i : Nat) (a : Int), g + i = n ∧ iv = .int .i64 i ∧ mv = .int .i64 a ∧ (D.drop i).foldl max a = R ∧ wr = w2)
  case atStart => exact ⟨0, 0, by omega, rfl, rfl, HR.out.1, rfl⟩
  case round =>
    obtain ⟨i, a, hgi, rfl, rfl, hf, rfl⟩ := hrel
    by_cases hlt : i < n
    · obtain ⟨g, rfl⟩ : ∃ g, gk = g + 1 := ⟨gk - 1, by omega⟩
      have hltz : (i : Int) < (n : Int) := by omega
      have hil : i < D.length := by rw [HR.out.2.1, HR.out.2.2]; exact hlt
      obtain ⟨b3, o3, e3, hc⟩ := HX2.out.2 i hil
      cases e3
      rw [drop_at D i hil, List.foldl_cons] at hf
      obtain ⟨d, hd⟩ : ∃ d, D[i]'hil = d := ⟨_, rfl⟩
      rw [hd] at hc hf
      have HF := Lib.hid hf
      clear hf hd
      go_wp2_with fail
      go_roundg g
      case measure => omega
      case rel => exact ⟨i + 1, max a d, by omega, by go_num, by go_num, HF.out, rfl⟩
    · obtain rfl : gk = 0 := by omega
      have hRa : R = a := by rw [← hf, List.drop_eq_nil_of_le (by rw [HR.out.2.1, HR.out.2.2]; omega)]; rfl
      subst hRa
      clear hf
      go_wp2_with fail
      go_ret
      exact ⟨rfl, HX2.out.1⟩
set_option maxRecDepth 100000 in
set_option maxHeartbeats 2000000 in
theorem get17_walk (v : Value) (l : List Nd) (s : ByteArray) (w : World) (h : NodesAt w v l) (hl : Lt l) :
    Calls Tryz.prog 9 #[v, .string s] w fun e w' => ∃ v2, e = .returned (.tuple #[v2, .bool (getN l s).isSome]) ∧ Ext [] w w' ∧ NodesAt w' v2 ((getN l s).getD []) := by
  have HC := Lib.hid (check17_walk v l w h hl.len hl.s)
  obtain ⟨c, hc⟩ : ∃ c, checkN l = c := ⟨_, rfl⟩
  rw [hc] at HC
  by_cases c0 : c = 0
  case neg =>
    have hi : isN l 8 = false := by simp [isN, hc, c0]
    have hnm : namesN l = [] := by rw [namesN, if_neg (by rw [hi]; simp)]
    have hR : getN l s = none := by rw [getN, hnm, find_none (by simp)]; rfl
    rw [hR]
    obtain ⟨base, cap, rfl, -, -⟩ := h
    have hcb : (c != 0) = true := bne_iff_ne.2 c0
    clear hR hc hi hnm
    go_enter Tryz.func9, Tryz.ntmps9
    go_wp2_with fail
    refine HC.out.mono ?_
    rintro e w1 ⟨rfl, hx⟩
    have HX := Lib.hid hx
    clear hx HC
    go_wp2_with fail
    go_ret2
    exact ⟨_, rfl, HX.out, none, 0, rfl, by simp, fun k hk => by cases hk⟩
  case pos =>
  subst c0
  obtain ⟨h0, hn, E, D, hsh, -⟩ := check_zero hc
  have hCut := Lib.hid (fun (w1 : World) (hx : Ext [] w w1) (k : Nat) (hk : k < l.length) => cut17_one v l w1 (h.ext hx) k hk hn (by rw [hsh]; simp))
  have hrk := root_kids hc
  have hrl := root_len hc
  obtain ⟨base, cap, rfl, -, hN⟩ := h
  obtain ⟨b, o, rfl, hnd⟩ := node_in hN 0 h0
  rw [Nat.zero_mul, Nat.add_zero, show ((0 : Nat) : Int) = 0 from rfl] at hnd
  obtain ⟨r1, -, -, -, -, rb, rc, r5, r6⟩ := hnd
  obtain ⟨n, hln⟩ : ∃ n, l.length = n := ⟨_, rfl⟩
  by_cases k8 : (ndAt l 0).kind = 8
  case neg =>
    have hi : isN l 8 = false := by simp [isN, k8]
    have hnm : namesN l = [] := by rw [namesN, if_neg (by rw [hi]; simp)]
    have hR : getN l s = none := by rw [getN, hnm, find_none (by simp)]; rfl
    rw [hR]
    obtain ⟨x, hx0⟩ : ∃ x, ndAt l 0 = x := ⟨_, rfl⟩
    rw [hx0] at r1 k8
    rw [hln] at HC h0 ⊢
    have hkb : (x.kind != 8) = true := bne_iff_ne.2 k8
    have hr1 := Lib.hid r1
    clear hR hc hi hx0 hrk hrl r5 r6 hN hln hsh k8 r1 hnm hCut
    go_enter Tryz.func9, Tryz.ntmps9
    go_wp2_with fail
    refine HC.out.mono ?_
    rintro e w1 ⟨rfl, hx⟩
    have r1 := hx.cell hr1.out
    have HX := Lib.hid hx
    clear hx HC
    go_wp2_with fail
    go_ret2
    exact ⟨_, rfl, HX.out, none, 0, rfl, by simp, fun k hk => by cases hk⟩
  case pos =>
  have hi : isN l 8 = true := by simp [isN, hc, k8]
  have hev := root_even hi
  obtain ⟨R, hR⟩ : ∃ R, linF l s (ndAt l 0).kids = R := ⟨_, rfl⟩
  rw [get_doc hi, hR]
  obtain ⟨G, hG⟩ : ∃ G, R.map (fun m => subN l m.toNat) = G := ⟨_, rfl⟩
  rw [hG]
  obtain ⟨x, hx0⟩ : ∃ x, ndAt l 0 = x := ⟨_, rfl⟩
  rw [hx0] at r1 k8 hrk hev hrl hR r5 r6
  obtain ⟨K, hK⟩ : ∃ K, x.kids.length = K := ⟨_, rfl⟩
  rw [hK] at r5 hrl hev
  rw [k8] at r1
  have HH := Lib.hid (⟨hN, hrk, hR, r5, r6, hK, hln, r1, hG⟩ : _ ∧ _ ∧ _ ∧ _ ∧ _ ∧ _ ∧ _ ∧ _ ∧ _)
  rw [hln] at HC hCut h0 ⊢
  have h0z : (0 : Int) < (n : Int) := by omega
  clear hN hrk hR r1 r5 r6 hK hln hx0 hc h0 hsh hn hi k8 hG
  go_enter Tryz.func9, Tryz.ntmps9
  go_wp2_with fail
  refine HC.out.mono ?_
  rintro e w1 ⟨rfl, hx⟩
  have r1 := hx.cell HH.out.2.2.2.2.2.2.2.1
  have HX := Lib.hid hx
  clear hx HC
  go_wp2_with fail
  clear r1
  go_loopg [6] K (fun g iv wr => ∃ j : Nat, g + j = K ∧ j % 2 = 0 ∧ iv = .int .i64 j ∧ linF l s (x.kids.drop j) = R ∧ Ext [] w wr)
  case atStart => exact ⟨0, by omega, rfl, rfl, HH.out.2.2.1, HX.out⟩
  case round =>
    clear HX
    obtain ⟨j, hgj, hj2, rfl, hR, hx⟩ := hrel
    have r5 := hx.cell HH.out.2.2.2.1
    by_cases hjK : j < K
    case neg =>
      obtain rfl : gk = 0 := by omega
      have hRn : R = none := by rw [← hR, List.drop_eq_nil_of_le (by rw [HH.out.2.2.2.2.2.1]; omega)]; rfl
      have hGn : G = none := by rw [← HH.out.2.2.2.2.2.2.2.2, hRn]; rfl
      subst hGn
      have HX := Lib.hid hx
      clear hR hx hRn
      go_wp2_with fail
      go_ret2
      exact ⟨_, rfl, HX.out, none, 0, rfl, by simp, fun k hk => by cases hk⟩
    case pos =>
    obtain ⟨g, rfl⟩ : ∃ g, gk = g + 2 := ⟨gk - 2, by omega⟩
    have hjz : (j : Int) < (K : Int) := by omega
    have hj1 : j + 1 < x.kids.length := by rw [HH.out.2.2.2.2.2.1]; omega
    have hjz1 : (j : Int) + 1 < (K : Int) := by have := HH.out.2.2.2.2.2.1; omega
    rw [drop_at x.kids j (by omega), drop_at x.kids (j + 1) hj1, linF] at hR
    obtain ⟨b5, o5, rfl, c5⟩ := HH.out.2.2.2.2.1 j (by omega)
    obtain ⟨b55, o55, e55, c6⟩ := HH.out.2.2.2.2.1 (j + 1) hj1
    cases e55
    have hb := HH.out.2.1 j _ (List.getElem?_eq_getElem (by omega))
    have hb1 := HH.out.2.1 (j + 1) _ (List.getElem?_eq_getElem hj1)
    have c5 := hx.cell c5
    have c6 := hx.cell c6
    generalize x.kids[j]'(by omega) = c at hR c5 hb
    generalize x.kids[j + 1]'hj1 = d at hR c6 hb1
    obtain ⟨k, rfl⟩ : ∃ k : Nat, c = (k : Int) := ⟨c.toNat, by omega⟩
    obtain ⟨k2, rfl⟩ : ∃ k2 : Nat, d = (k2 : Int) := ⟨d.toNat, by omega⟩
    have hk : k < l.length := by omega
    have hk2 : k2 < n := by have := HH.out.2.2.2.2.2.2.1; omega
    obtain ⟨b6, o6, e6, d1, d2, d3, d4, -⟩ := node_in (HH.out.1.ext hx) k hk
    cases e6
    have hkz : (k : Int) < (n : Int) := by have := HH.out.2.2.2.2.2.2.1; omega
    obtain ⟨y, hy⟩ : ∃ y, (ndAt l (k : Int)).s = y := ⟨_, rfl⟩
    rw [hy] at d4 hR
    clear hy d1 d2 d3 hb hb1
    cases hbut : (y.toList == s.toList) with
    | false =>
      rw [if_neg (fun e => by rw [e] at hbut; simp at hbut)] at hR
      have HX := Lib.hid (⟨hx, hR⟩ : _ ∧ _)
      clear hR hx
      go_wp2_with fail
      go_roundg g
      case measure => omega
      case rel => exact ⟨j + 2, by omega, by omega, by go_num, HX.out.2, HX.out.1⟩
    | true =>
      rw [if_pos (bytes_eq (by simpa using hbut))] at hR
      have hGs : G = some (subN l k2) := by rw [← HH.out.2.2.2.2.2.2.2.2, ← hR]; rfl
      subst hGs
      have HX := Lib.hid hx
      have c6' : wr.cell? ⟨b5, o5 + (j + 1), none⟩ = some (.int .i64 (k2 : Nat)) := c6
      clear hR hx c6
      go_wp2_with fail
      refine (hCut.out wr HX.out k2 hk2).mono ?_
      rintro e W ⟨v2, rfl, hx2, hN2⟩
      have HX2 := Lib.hid (⟨HX.out.trans hx2, hN2⟩ : _ ∧ _)
      clear hx2 hN2 HX
      go_wp2_with fail
      go_ret2
      exact ⟨_, rfl, HX2.out.1, HX2.out.2⟩
set_option maxRecDepth 100000 in
set_option maxHeartbeats 2000000 in
theorem names17_walk (v : Value) (l : List Nd) (w : World) (h : NodesAt w v l) (hl : Lt l) :
    Calls Tryz.prog 26 #[v] w fun e w' => ∃ v2, e = .returned v2 ∧ Ext [] w w' ∧ StrsAt w' v2 (namesN l) := by
  obtain ⟨i0, hif, hz0, hz1, hz2⟩ := info_parts infoString17
  have HC := Lib.hid (check17_walk v l w h hl.len hl.s)
  obtain ⟨c, hc⟩ : ∃ c, checkN l = c := ⟨_, rfl⟩
  rw [hc] at HC
  by_cases c0 : c = 0
  case neg =>
    have hi : isN l 8 = false := by simp [isN, hc, c0]
    have hR : namesN l = [] := by rw [namesN, if_neg (by rw [hi]; simp)]
    rw [hR]
    obtain ⟨base, cap, rfl, -, -⟩ := h
    have hcb : (c != 0) = true := bne_iff_ne.2 c0
    clear hR hc hi
    go_enter Tryz.func26, Tryz.ntmps26
    go_wp2_with fail
    refine HC.out.mono ?_
    rintro e w1 ⟨rfl, hx⟩
    have HX := Lib.hid hx
    clear hx HC
    go_wp2_with fail
    go_ret
    exact ⟨_, rfl, HX.out, none, 0, rfl, by simp, fun k hk => by cases hk⟩
  case pos =>
  subst c0
  obtain ⟨h0, hn, E, D, hsh, -⟩ := check_zero hc
  have hrk := root_kids hc
  have hrl := root_len hc
  obtain ⟨base, cap, rfl, -, hN⟩ := h
  obtain ⟨b, o, rfl, hnd⟩ := node_in hN 0 h0
  rw [Nat.zero_mul, Nat.add_zero, show ((0 : Nat) : Int) = 0 from rfl] at hnd
  obtain ⟨r1, -, -, -, -, rb, rc, r5, r6⟩ := hnd
  obtain ⟨n, hln⟩ : ∃ n, l.length = n := ⟨_, rfl⟩
  by_cases k8 : (ndAt l 0).kind = 8
  case neg =>
    have hi : isN l 8 = false := by simp [isN, k8]
    have hR : namesN l = [] := by rw [namesN, if_neg (by rw [hi]; simp)]
    rw [hR]
    obtain ⟨x, hx0⟩ : ∃ x, ndAt l 0 = x := ⟨_, rfl⟩
    rw [hx0] at r1 k8
    rw [hln] at HC h0 ⊢
    have hkb : (x.kind != 8) = true := bne_iff_ne.2 k8
    have hr1 := Lib.hid r1
    clear hR hc hi hx0 hrk hrl r5 r6 hN hln hsh k8 r1 
    go_enter Tryz.func26, Tryz.ntmps26
    go_wp2_with fail
    refine HC.out.mono ?_
    rintro e w1 ⟨rfl, hx⟩
    have r1 := hx.cell hr1.out
    have HX := Lib.hid hx
    clear hx HC
    go_wp2_with fail
    go_ret
    exact ⟨_, rfl, HX.out, none, 0, rfl, by simp, fun k hk => by cases hk⟩
  case pos =>
  have hi : isN l 8 = true := by simp [isN, hc, k8]
  have hev := root_even hi
  obtain ⟨R, hR⟩ : ∃ R, namesN l = R := ⟨_, rfl⟩
  rw [hR]
  rw [namesN, hi, if_pos rfl] at hR
  obtain ⟨x, hx0⟩ : ∃ x, ndAt l 0 = x := ⟨_, rfl⟩
  rw [hx0] at r1 k8 hrk hev hrl hR r5 r6
  obtain ⟨K, hK⟩ : ∃ K, x.kids.length = K := ⟨_, rfl⟩
  rw [hK] at r5 hrl hev
  have hK9 : K ≤ 65536 := by omega
  rw [k8] at r1
  have HH := Lib.hid (⟨hN, hrk, hR, r5, r6, hK, hln, r1⟩ : _ ∧ _ ∧ _ ∧ _ ∧ _ ∧ _ ∧ _ ∧ _)
  rw [hln] at HC h0 hn ⊢
  have h0z : (0 : Int) < (n : Int) := by omega
  clear hN hrk hR r1 r5 r6 hK hln hx0 hc h0 hsh hi k8
  go_enter Tryz.func26, Tryz.ntmps26
  go_wp2_with fail
  refine HC.out.mono ?_
  rintro e w1 ⟨rfl, hx⟩
  have r1 := hx.cell HH.out.2.2.2.2.2.2.2
  have S := ((Sep.start w).quiet hx).new (Ext.refl _ _) (oSl 9 1 (.slice none 0 0) 0 []) (World.ownsRow_nil _ _ _ _) (fun q hq => by simp [oSl, Value.ownBlock] at hq)
  have HS := Lib.hid S
  clear hx HC S
  go_wp2_with fail
  clear r1
  go_loopg [3, 4] K (fun g ov iv wr => ∃ (j : Nat) (A : List ByteArray), g + j = K ∧ j % 2 = 0 ∧ iv = .int .i64 j ∧ A.length ≤ j ∧ A ++ (evensN (x.kids.drop j)).map (fun k => (ndAt l k).s) = R ∧ Sep w wr [oSl 9 1 ov A.length (stC A)])
  case atStart => exact ⟨0, [], by omega, rfl, rfl, by simp, HH.out.2.2.1, HS.out⟩
  case round =>
    clear HS
    obtain ⟨j, A, hgj, hj2, rfl, hA, hR, S⟩ := hrel
    have hr0 : wr.ownsRow 0 9 1 u3 A.length (stC A) := S.get 0 rfl
    obtain ⟨ao3, c3, rfl⟩ := row_slice hr0
    obtain ⟨m, hm⟩ : ∃ m, A.length = m := ⟨_, rfl⟩
    have r5 := S.ext.cell HH.out.2.2.2.1
    by_cases hjK : j < K
    · obtain ⟨g, rfl⟩ : ∃ g, gk = g + 2 := ⟨gk - 2, by omega⟩
      have hjz : (j : Int) < (K : Int) := by omega
      have hj1 : j + 1 < x.kids.length := by rw [HH.out.2.2.2.2.2.1]; omega
      rw [evens_step _ j hj1] at hR
      obtain ⟨b5, o5, rfl, c5⟩ := HH.out.2.2.2.2.1 j (by omega)
      have hb := HH.out.2.1 j _ (List.getElem?_eq_getElem (by omega))
      have c5 := S.ext.cell c5
      generalize x.kids[j]'(by omega) = c at hR c5 hb
      obtain ⟨k, rfl⟩ : ∃ k : Nat, c = (k : Int) := ⟨c.toNat, by omega⟩
      have hk : k < l.length := by omega
      obtain ⟨b6, o6, e6, d1, d2, d3, d4, -⟩ := node_in (HH.out.1.ext S.ext) k hk
      cases e6
      have hkz : (k : Int) < (n : Int) := by have := HH.out.2.2.2.2.2.2.1; omega
      rw [List.map_cons] at hR
      obtain ⟨s, hs⟩ : ∃ s, (ndAt l (k : Int)).s = s := ⟨_, rfl⟩
      rw [hs] at d4 hR
      rw [hm] at hr0 hA ⊢
      have HX := Lib.hid (⟨S, hR, hr0, hm⟩ : _ ∧ _ ∧ _ ∧ _)
      clear S hR hr0 hm hb hs d1 d2 d3
      go_wp2_with (first | (at_builtin; refine wpList_append_lies _ rfl _ _ 43 rfl 0 9 i0 _ 1 16 Tryz.underlying43 hif hz0 hz1 hz2 rfl (by decide) (.slice ao3 m c3) m _ rfl (World.ownsRow.alloc HX.out.2.2.1 _) ⟨wr.heap.size, 0, none⟩ 1 1 [.string s] rfl rfl (cell_one_new _ _ _) (by simp [Value.oneCell']) (by decide) (by unfold maxLen; omega) (by omega) (by omega) (wr.heap.size + 1) (by simp) ?_; intro g6 cap2 w6 hown1 hgrow hat6 hlt6))
      have Pl := push_local (cap := cap2) (n := m + 1) hgrow hat6
      go_roundg g
      case measure => omega
      case rel =>
        have hl1 : (A ++ [s]).length = m + 1 := by rw [List.length_append, HX.out.2.2.2]; rfl
        refine ⟨j + 2, A ++ [s], by omega, by omega, by go_num, by omega, by rw [List.append_assoc]; exact HX.out.2.1, HX.out.1.upd 0 (oSl 9 1 (.slice (some ⟨g6, 0, none⟩) (m + 1) cap2) (A ++ [s]).length (stC (A ++ [s]))) rfl (by rw [HX.out.2.2.2]; exact Pl.1) (by rw [HX.out.2.2.2]; exact Pl.2) ?_⟩
        show World.ownsRow _ 0 9 1 _ _ _
        rw [hl1, stC, List.map_append]
        exact hown1
    · obtain rfl : gk = 0 := by omega
      have hRA : A = R := by rw [← hR, List.drop_eq_nil_of_le (by rw [HH.out.2.2.2.2.2.1]; omega), evensN, List.map_nil, List.append_nil]
      subst hRA
      have HX := Lib.hid (⟨S.ext, strs_own hr0⟩ : _ ∧ _)
      clear hR S hr0 hA hm
      go_wp2_with fail
      go_ret
      exact ⟨_, rfl, HX.out.1, HX.out.2⟩
end Go.Proofs.YtkjcjklnclahdaaGreatDoor.Tr
