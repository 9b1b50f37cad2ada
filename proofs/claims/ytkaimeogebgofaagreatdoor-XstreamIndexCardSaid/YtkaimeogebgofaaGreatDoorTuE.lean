/-
  The document's End, cut, Sub walked (wip/mktue.py).
-/
import Derived.Test.YtkaimeogebgofaaGreatDoorTuC
namespace Go.Proofs.YtkaimeogebgofaaGreatDoor.Tr
open Go.RowKit

set_option maxRecDepth 100000 in
set_option maxHeartbeats 2000000 in
theorem cut17_walk (w0 w : World) (L : List Ob) (v : Value) (l : List Nd) (S : Sep w0 w L) (h : NodesAt w0 v l) (i : Nat) (hi : i < l.length) (hl : l.length ≤ 65536) (hs : shapeN l ≠ none) :
    Calls Tryz.prog 36 #[v, .int .i64 i] w fun e w' => ∃ v2 Z, e = .returned v2 ∧ Z.map (·.1) = subN l i ∧ Sep w0 w' (oZs v2 Z :: L) := by
  cases hsh : shapeN l with
  | none => exact absurd hsh hs
  | some p =>
  obtain ⟨E, D⟩ := p
  have HW := Lib.hid (ends_walk v l w (h.ext S.ext) hl)
  rw [hsh] at HW
  obtain ⟨R, hR⟩ : ∃ R, subN l i = R := ⟨_, rfl⟩
  have hR2 := hR
  rw [subN, hsh] at hR2
  simp only at hR2
  rw [hR]
  obtain ⟨h0, hE, hD, hK, hEnd⟩ := shape_some hsh
  obtain ⟨e1, e2⟩ := (hEnd i hi).1
  obtain ⟨e, he⟩ : ∃ e : Nat, E.getD i 0 = (e : Int) := ⟨(E.getD i 0).toNat, by omega⟩
  rw [he] at e1 e2 hR2
  rw [Int.toNat_natCast] at hR2
  have hkk := shape_kids hsh hl
  obtain ⟨base, cap, rfl, hcap, hN⟩ := h
  obtain ⟨b, o, rfl, -⟩ := hN 0 h0
  have hEg : E[i]? = some (e : Int) := by
    have hie : i < E.length := by omega
    rw [← he, List.getD_eq_getElem?_getD, List.getElem?_eq_getElem hie]; rfl
  obtain ⟨n, hn⟩ : ∃ n, l.length = n := ⟨_, rfl⟩
  have HH := Lib.hid (⟨hN, hkk, hR2, hn, hEg, S⟩ : _ ∧ _ ∧ _ ∧ _ ∧ _ ∧ _)
  rw [hn] at hE hi hl e2 hcap ⊢
  rw [hn] at HW
  clear hR hR2 hsh hN hkk hn h0 hD hK hEnd he hs hEg S
  go_enter Tryz.func36, Tryz.ntmps36
  go_wp2_with fail
  refine HW.out.mono ?_
  rintro ee w1 ⟨ev, dv, rfl, hx, ⟨⟨eb, ec, rfl, hI⟩, -⟩⟩
  obtain ⟨b3, o3, rfl, hc3⟩ := hI i (by omega)
  rw [(List.getElem?_eq_some_iff.1 HH.out.2.2.2.2.1).2] at hc3
  have HX := Lib.hid (HH.out.2.2.2.2.2.quiet hx)
  rw [hE]
  have hiz : (i : Int) < (n : Int) := by omega
  clear hx HW hI hE
  have hez : (i : Int) ≤ (e : Int) := by omega
  have hecap : (e : Int) ≤ (cap : Int) := by omega
  have hlen : ((l.take e).drop i).length = e - i := by rw [List.length_drop, List.length_take, HH.out.2.2.2.1]; omega
  have hNs : NodesAt w0 (.slice (some ⟨b, o + i * 5, none⟩) (e - i) (cap - i)) ((l.take e).drop i) := ⟨_, _, by rw [hlen], by rw [hlen]; omega, HH.out.1.cut i e⟩
  have HA := Lib.hid (moved_walk w0 w1 _ _ _ (-(i : Int)) HX.out hNs (by rw [hlen]; omega) (fun x hx => by
    obtain ⟨q1, q2⟩ := HH.out.2.1 x (List.mem_of_mem_take (List.mem_of_mem_drop hx))
    exact ⟨q1, fun k hk => by have := q2 k hk; omega⟩))
  rw [HH.out.2.2.1] at HA
  clear hNs hlen
  go_wp2_with fail
  refine HA.out.mono ?_
  rintro ee w3 ⟨v3, Z, rfl, hZ, S⟩
  have HP := Lib.hid (⟨hZ, S⟩ : _ ∧ _)
  clear hZ S HA hc3
  go_wp2_with fail
  go_ret
  exact ⟨_, Z, rfl, HP.out.1, HP.out.2⟩
theorem cut17_one (v : Value) (l : List Nd) (w : World) (h : NodesAt w v l) (i : Nat) (hi : i < l.length) (hl : l.length ≤ 65536) (hs : shapeN l ≠ none) :
    Calls Tryz.prog 36 #[v, .int .i64 i] w fun e w' => ∃ v2, e = .returned v2 ∧ Ext [] w w' ∧ NodesAt w' v2 (subN l i) := by
  refine (cut17_walk w w [] v l (Sep.start w) h i hi hl hs).mono ?_
  rintro e w' ⟨v2, Z, rfl, hZ, S⟩
  refine ⟨v2, rfl, S.ext, ?_⟩
  rw [← hZ]
  exact (S.get 0 rfl : ZsP w' v2 Z).nodes
end Go.Proofs.YtkaimeogebgofaaGreatDoor.Tr
