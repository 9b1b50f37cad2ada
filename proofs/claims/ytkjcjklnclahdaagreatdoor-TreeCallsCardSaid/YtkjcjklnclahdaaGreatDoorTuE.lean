/-
  The document's End, cut, Sub walked (wip/mktue.py).
-/
import Derived.Test.YtkjcjklnclahdaaGreatDoorTuC
namespace Go.Proofs.YtkjcjklnclahdaaGreatDoor.Tr
open Go.RowKit

set_option maxRecDepth 100000 in
set_option maxHeartbeats 1000000 in
theorem end17_walk (v : Value) (l : List Nd) (i : Int) (w : World) (h : NodesAt w v l) (hl : Lt l) :
    Calls Tryz.prog 19 #[v, .int .i64 i] w fun e w' => e = .returned (.int .i64 (endN l i)) ∧ Ext [] w w' := by
  have HC := Lib.hid (check17_walk v l w h hl.len hl.s)
  obtain ⟨c, hc⟩ : ∃ c, checkN l = c := ⟨_, rfl⟩
  rw [hc] at HC
  by_cases c0 : c = 0
  case neg =>
    have hR : endN l i = 0 := by rw [endN, hc, if_neg (by simp [c0])]
    rw [hR]
    obtain ⟨base, cap, rfl, -, -⟩ := h
    have hcb : (c != 0) = true := bne_iff_ne.2 c0
    clear hR hc
    go_enter Tryz.func19, Tryz.ntmps19
    go_wp2_with fail
    refine HC.out.mono ?_
    rintro e w1 ⟨rfl, hx⟩
    have HX := Lib.hid hx
    clear hx HC
    go_wp2_with fail
    go_ret
    exact ⟨rfl, HX.out⟩
  case pos =>
  subst c0
  by_cases hi : 0 ≤ i ∧ i < l.length
  case neg =>
    have hR : endN l i = 0 := by rw [endN, hc, if_neg (by simpa using hi)]
    rw [hR]
    obtain ⟨base, cap, rfl, -, -⟩ := h
    obtain ⟨n, hn⟩ : ∃ n, l.length = n := ⟨_, rfl⟩
    rw [hn] at HC hi ⊢
    clear hR hc hn
    by_cases h1 : i < 0
    · go_enter Tryz.func19, Tryz.ntmps19
      go_wp2_with fail
      refine HC.out.mono ?_
      rintro e w1 ⟨rfl, hx⟩
      have HX := Lib.hid hx
      clear hx HC hi
      go_wp2_with fail
      go_ret
      exact ⟨rfl, HX.out⟩
    · have h2 : (n : Int) ≤ i := by omega
      go_enter Tryz.func19, Tryz.ntmps19
      go_wp2_with fail
      refine HC.out.mono ?_
      rintro e w1 ⟨rfl, hx⟩
      have HX := Lib.hid hx
      clear hx HC hi
      go_wp2_with fail
      go_ret
      exact ⟨rfl, HX.out⟩
  case pos =>
  obtain ⟨h0, hn, E, D, hsh, -⟩ := check_zero hc
  obtain ⟨-, hE, -, -⟩ := shape_some hsh
  have HS := Lib.hid (fun w1 (hx : Ext [] w w1) => ends_walk v l w1 (h.ext hx) hn)
  rw [hsh] at HS
  obtain ⟨k, rfl⟩ : ∃ k : Nat, i = (k : Int) := ⟨i.toNat, by omega⟩
  have hR : endN l k = E.getD k 0 := by rw [endN, if_pos ⟨hc, hi⟩, endsN, hsh, Int.toNat_natCast]
  rw [hR]
  obtain ⟨base, cap, rfl, -, -⟩ := h
  obtain ⟨n, hln⟩ : ∃ n, l.length = n := ⟨_, rfl⟩
  rw [hln] at HC HS hi hE hn ⊢
  have hkn : (k : Int) < (n : Int) := hi.2
  have hkE : k < E.length := by omega
  obtain ⟨z, hz⟩ : ∃ z, E.getD k 0 = z := ⟨_, rfl⟩
  have hge : E[k]'hkE = z := by rw [← hz, List.getD_eq_getElem?_getD, List.getElem?_eq_getElem hkE]; rfl
  rw [hz]
  have HG := Lib.hid hge
  clear hR hc hsh hi hln h0 hge hz
  go_enter Tryz.func19, Tryz.ntmps19
  go_wp2_with fail
  refine HC.out.mono ?_
  rintro e w1 ⟨rfl, hx⟩
  have HX := Lib.hid hx
  have HS2 := Lib.hid (HS.out w1 hx)
  clear hx HC HS
  go_wp2_with fail
  refine HS2.out.mono ?_
  rintro e w2 ⟨ev, dv, rfl, hx2, ⟨eb, ec, rfl, hI⟩, -⟩
  obtain ⟨b2, o2, rfl, hck⟩ := hI k hkE
  rw [HG.out] at hck
  rw [hE]
  have HX2 := Lib.hid (HX.out.trans hx2)
  clear hI hx2 HX HS2 hE HG
  go_wp2_with fail
  go_ret
  exact ⟨rfl, HX2.out⟩
set_option maxRecDepth 100000 in
set_option maxHeartbeats 2000000 in
theorem cut17_walk (w0 w : World) (L : List Ob) (v : Value) (l : List Nd) (S : Sep w0 w L) (h : NodesAt w0 v l) (i : Nat) (hi : i < l.length) (hl : l.length ≤ 65536) (hs : shapeN l ≠ none) :
    Calls Tryz.prog 39 #[v, .int .i64 i] w fun e w' => ∃ v2 Z, e = .returned v2 ∧ Z.map (·.1) = subN l i ∧ Sep w0 w' (oZs v2 Z :: L) := by
  cases hsh : shapeN l with
  | none => exact absurd hsh hs
  | some p =>
  obtain ⟨E, D⟩ := p
  have HW := Lib.hid (ends_walk v l w (h.ext S.ext) hl)
  rw [hsh] at HW
  obtain ⟨R, hR⟩ : ∃ R, subN l i = R := ⟨_, rfl⟩
  have hR2 := hR
  rw [subN, hsh] at hR2
  simp only at hR2
  rw [hR]
  obtain ⟨h0, hE, hD, hK, hEnd⟩ := shape_some hsh
  obtain ⟨e1, e2⟩ := (hEnd i hi).1
  obtain ⟨e, he⟩ : ∃ e : Nat, E.getD i 0 = (e : Int) := ⟨(E.getD i 0).toNat, by omega⟩
  rw [he] at e1 e2 hR2
  rw [Int.toNat_natCast] at hR2
  have hkk := shape_kids hsh hl
  obtain ⟨base, cap, rfl, hcap, hN⟩ := h
  obtain ⟨b, o, rfl, -⟩ := hN 0 h0
  have hEg : E[i]? = some (e : Int) := by
    have hie : i < E.length := by omega
    rw [← he, List.getD_eq_getElem?_getD, List.getElem?_eq_getElem hie]; rfl
  obtain ⟨n, hn⟩ : ∃ n, l.length = n := ⟨_, rfl⟩
  have HH := Lib.hid (⟨hN, hkk, hR2, hn, hEg, S⟩ : _ ∧ _ ∧ _ ∧ _ ∧ _ ∧ _)
  rw [hn] at hE hi hl e2 hcap ⊢
  rw [hn] at HW
  clear hR hR2 hsh hN hkk hn h0 hD hK hEnd he hs hEg S
  go_enter Tryz.func39, Tryz.ntmps39
  go_wp2_with fail
  refine HW.out.mono ?_
  rintro ee w1 ⟨ev, dv, rfl, hx, ⟨⟨eb, ec, rfl, hI⟩, -⟩⟩
  obtain ⟨b3, o3, rfl, hc3⟩ := hI i (by omega)
  rw [(List.getElem?_eq_some_iff.1 HH.out.2.2.2.2.1).2] at hc3
  have HX := Lib.hid (HH.out.2.2.2.2.2.quiet hx)
  rw [hE]
  have hiz : (i : Int) < (n : Int) := by omega
  clear hx HW hI hE
  have hez : (i : Int) ≤ (e : Int) := by omega
  have hecap : (e : Int) ≤ (cap : Int) := by omega
  have hlen : ((l.take e).drop i).length = e - i := by rw [List.length_drop, List.length_take, HH.out.2.2.2.1]; omega
  have hNs : NodesAt w0 (.slice (some ⟨b, o + i * 5, none⟩) (e - i) (cap - i)) ((l.take e).drop i) := ⟨_, _, by rw [hlen], by rw [hlen]; omega, HH.out.1.cut i e⟩
  have HA := Lib.hid (moved_walk w0 w1 _ _ _ (-(i : Int)) HX.out hNs (by rw [hlen]; omega) (fun x hx => by
    obtain ⟨q1, q2⟩ := HH.out.2.1 x (List.mem_of_mem_take (List.mem_of_mem_drop hx))
    exact ⟨q1, fun k hk => by have := q2 k hk; omega⟩))
  rw [HH.out.2.2.1] at HA
  clear hNs hlen
  go_wp2_with fail
  refine HA.out.mono ?_
  rintro ee w3 ⟨v3, Z, rfl, hZ, S⟩
  have HP := Lib.hid (⟨hZ, S⟩ : _ ∧ _)
  clear hZ S HA hc3
  go_wp2_with fail
  go_ret
  exact ⟨_, Z, rfl, HP.out.1, HP.out.2⟩
theorem cut17_one (v : Value) (l : List Nd) (w : World) (h : NodesAt w v l) (i : Nat) (hi : i < l.length) (hl : l.length ≤ 65536) (hs : shapeN l ≠ none) :
    Calls Tryz.prog 39 #[v, .int .i64 i] w fun e w' => ∃ v2, e = .returned v2 ∧ Ext [] w w' ∧ NodesAt w' v2 (subN l i) := by
  refine (cut17_walk w w [] v l (Sep.start w) h i hi hl hs).mono ?_
  rintro e w' ⟨v2, Z, rfl, hZ, S⟩
  refine ⟨v2, rfl, S.ext, ?_⟩
  rw [← hZ]
  exact (S.get 0 rfl : ZsP w' v2 Z).nodes
set_option maxRecDepth 100000 in
set_option maxHeartbeats 1000000 in
theorem sub17_walk (v : Value) (l : List Nd) (i : Int) (w : World) (h : NodesAt w v l) (hl : Lt l) :
    Calls Tryz.prog 21 #[v, .int .i64 i] w fun e w' => ∃ v2, e = .returned v2 ∧ Ext [] w w' ∧ NodesAt w' v2 (subXN l i) := by
  have HC := Lib.hid (check17_walk v l w h hl.len hl.s)
  obtain ⟨c, hc⟩ : ∃ c, checkN l = c := ⟨_, rfl⟩
  rw [hc] at HC
  by_cases c0 : c = 0
  case neg =>
    have hR : subXN l i = [] := by rw [subXN, hc, if_neg (by simp [c0])]
    rw [hR]
    obtain ⟨base, cap, rfl, -, -⟩ := h
    have hcb : (c != 0) = true := bne_iff_ne.2 c0
    clear hR hc
    go_enter Tryz.func21, Tryz.ntmps21
    go_wp2_with fail
    refine HC.out.mono ?_
    rintro e w1 ⟨rfl, hx⟩
    have HX := Lib.hid hx
    clear hx HC
    go_wp2_with fail
    go_ret
    exact ⟨_, rfl, HX.out, none, 0, rfl, by simp, fun k hk => by cases hk⟩
  case pos =>
  subst c0
  by_cases hi : 0 ≤ i ∧ i < l.length
  case neg =>
    have hR : subXN l i = [] := by rw [subXN, hc, if_neg (by simpa using hi)]
    rw [hR]
    obtain ⟨base, cap, rfl, -, -⟩ := h
    obtain ⟨n, hn⟩ : ∃ n, l.length = n := ⟨_, rfl⟩
    rw [hn] at HC hi ⊢
    clear hR hc hn
    by_cases h1 : i < 0
    · go_enter Tryz.func21, Tryz.ntmps21
      go_wp2_with fail
      refine HC.out.mono ?_
      rintro e w1 ⟨rfl, hx⟩
      have HX := Lib.hid hx
      clear hx HC hi
      go_wp2_with fail
      go_ret
      exact ⟨_, rfl, HX.out, none, 0, rfl, by simp, fun k hk => by cases hk⟩
    · have h2 : (n : Int) ≤ i := by omega
      go_enter Tryz.func21, Tryz.ntmps21
      go_wp2_with fail
      refine HC.out.mono ?_
      rintro e w1 ⟨rfl, hx⟩
      have HX := Lib.hid hx
      clear hx HC hi
      go_wp2_with fail
      go_ret
      exact ⟨_, rfl, HX.out, none, 0, rfl, by simp, fun k hk => by cases hk⟩
  case pos =>
  obtain ⟨h0, hn, E, D, hsh, -⟩ := check_zero hc
  obtain ⟨k, rfl⟩ : ∃ k : Nat, i = (k : Int) := ⟨i.toNat, by omega⟩
  have hkl : k < l.length := by omega
  have hR2 : subXN l k = subN l k := by rw [subXN, if_pos ⟨hc, hi⟩, Int.toNat_natCast]
  rw [hR2]
  have HS := Lib.hid (fun w1 (hx : Ext [] w w1) => cut17_one v l w1 (h.ext hx) k hkl hn (by rw [hsh]; simp))
  obtain ⟨base, cap, rfl, -, -⟩ := h
  obtain ⟨n, hln⟩ : ∃ n, l.length = n := ⟨_, rfl⟩
  rw [hln] at HC HS hi hn ⊢
  have hkn : (k : Int) < (n : Int) := hi.2
  clear hR2 hc hsh hi hln h0 hkl
  go_enter Tryz.func21, Tryz.ntmps21
  go_wp2_with fail
  refine HC.out.mono ?_
  rintro e w1 ⟨rfl, hx⟩
  have HX := Lib.hid hx
  have HS2 := Lib.hid (HS.out w1 hx)
  clear hx HC HS
  go_wp2_with fail
  refine HS2.out.mono ?_
  rintro e w2 ⟨v2, rfl, hx2, hN⟩
  have HX2 := Lib.hid (⟨HX.out.trans hx2, hN⟩ : _ ∧ _)
  clear hx2 hN HX HS2
  go_wp2_with fail
  go_ret
  exact ⟨_, rfl, HX2.out.1, HX2.out.2⟩
end Go.Proofs.YtkjcjklnclahdaaGreatDoor.Tr
