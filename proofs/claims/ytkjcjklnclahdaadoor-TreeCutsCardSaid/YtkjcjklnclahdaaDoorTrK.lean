/-
  tree: sub walked.
-/
import Derived.Test.YtkjcjklnclahdaaDoorTrJ
import Derived.Test.YtkjcjklnclahdaaDoorTrG
namespace Go.Proofs.YtkjcjklnclahdaaDoor.Tr
open Go.RowKit

/-- the value at a node -/
def subN (l : List Nd) (i : Nat) : List Nd :=
  match shapeN l with
  | some (E, _) => ((l.take (E.getD i 0).toNat).drop i).map (moveN (-(i : Int)))
  | none => []
theorem kidsAt_mem {l : List Nd} {x : Nd} (hx : x ∈ l) : ∃ a, a < l.length ∧ kidsAt l a = x.kids := by
  obtain ⟨a, ha, rfl⟩ := List.getElem_of_mem hx
  exact ⟨a, ha, by rw [kidsAt, List.getElem?_eq_getElem ha]⟩
theorem shape_kids {l : List Nd} {E D : List Int} (h : shapeN l = some (E, D)) (hl : l.length ≤ 65536) : ∀ x ∈ l, x.kids.length ≤ 131072 ∧ ∀ k ∈ x.kids, 0 ≤ k ∧ k ≤ 131072 := fun x hx => by
  obtain ⟨a, ha, he⟩ := kidsAt_mem hx
  obtain ⟨h0, h1, h2, h3, h4⟩ := shape_some h
  have h5 := (h4 a ha).2
  rw [he] at h5
  refine ⟨by omega, fun k hk => ?_⟩
  obtain ⟨j, hj⟩ := List.getElem?_of_mem hk
  have := h3 a ha j k (by rw [he]; exact hj)
  omega
theorem NodesIn.cut {w : World} {b o : Nat} {l : List Nd} (h : NodesIn w (some ⟨b, o, none⟩) l) (i e : Nat) : NodesIn w (some ⟨b, o + i * 5, none⟩) ((l.take e).drop i) := fun k hk => by
  have hk2 : i + k < l.length := by rw [List.length_drop, List.length_take] at hk; omega
  obtain ⟨b2, o2, e2, hn⟩ := h (i + k) hk2
  cases e2
  refine ⟨b, o + i * 5, rfl, ?_⟩
  rw [List.getElem_drop, List.getElem_take, show o + i * 5 + k * 5 = o + (i + k) * 5 by omega]
  exact hn
set_option maxRecDepth 100000 in
set_option maxHeartbeats 8000000 in
theorem sub_walk (v : Value) (l : List Nd) (w : World) (h : NodesAt w v l) (i : Nat) (hi : i < l.length) (hl : l.length ≤ 65536) (hs : shapeN l ≠ none) :
    Calls Tryd.prog 49 #[v, .int .i64 i] w fun e w' => ∃ v2, e = .returned v2 ∧ Ext [] w w' ∧ NodesAt w' v2 (subN l i) := by
  cases hsh : shapeN l with
  | none => exact absurd hsh hs
  | some p =>
  obtain ⟨E, D⟩ := p
  have HW := Lib.hid (shape_walk v l w h hl)
  rw [hsh] at HW
  obtain ⟨R, hR⟩ : ∃ R, subN l i = R := ⟨_, rfl⟩
  have hR2 := hR
  rw [subN, hsh] at hR2
  simp only at hR2
  rw [hR]
  obtain ⟨h0, hE, hD, hK, hEnd⟩ := shape_some hsh
  obtain ⟨e1, e2⟩ := (hEnd i hi).1
  obtain ⟨e, he⟩ : ∃ e : Nat, E.getD i 0 = (e : Int) := ⟨(E.getD i 0).toNat, by omega⟩
  rw [he] at e1 e2 hR2
  rw [Int.toNat_natCast] at hR2
  have hkk := shape_kids hsh hl
  obtain ⟨base, cap, rfl, hcap, hN⟩ := h
  obtain ⟨b, o, rfl, -⟩ := hN 0 h0
  have hEg : E[i]? = some (e : Int) := by
    have hie : i < E.length := by omega
    rw [← he, List.getD_eq_getElem?_getD, List.getElem?_eq_getElem hie]; rfl
  obtain ⟨n, hn⟩ : ∃ n, l.length = n := ⟨_, rfl⟩
  have HH := Lib.hid (⟨hN, hkk, hR2, hn, hEg⟩ : _ ∧ _ ∧ _ ∧ _ ∧ _)
  rw [hn] at hE hi hl e2 hcap ⊢
  rw [hn] at HW
  clear hR hR2 hsh hN hkk hn h0 hD hK hEnd he hs hEg
  go_enter Tryd.func49, Tryd.ntmps49
  go_wp2_with fail
  refine HW.out.mono ?_
  rintro ee w1 ⟨ev, dv, rfl, hx, ⟨⟨eb, ec, rfl, hI⟩, -⟩⟩
  obtain ⟨b3, o3, rfl, hc3⟩ := hI i (by omega)
  rw [(List.getElem?_eq_some_iff.1 HH.out.2.2.2.2).2] at hc3
  have HX := Lib.hid hx
  rw [hE]
  have hiz : (i : Int) < (n : Int) := by omega
  clear hx HW hI hE
  go_upto_region 3 with (fail)
  obtain ⟨W, hW⟩ : ∃ W, w1.alloc (Obj.cells #[.slice none 0 0] 80) = W := ⟨_, rfl⟩
  have hx2 : Ext [] w1 W := by rw [← hW]; exact (Ext.refl [] w1).alloc _
  have hb2 : W.heap[w1.heap.size]? = some (.cells #[.slice none 0 0] 80 (0, 0)) := by rw [← hW]; exact heap_alloc_at _
  obtain ⟨q, hq⟩ : ∃ q, w1.heap.size = q := ⟨_, rfl⟩
  have S := ((Sep.start w).quiet HX.out).new hx2 (oBd q (.slice none 0 0) []) ⟨by rw [← hq]; exact hb2, World.ownsRow_nil _ _ _ _, by simp, by simp [bdF, Value.ownBlock], by simp⟩ (fun k hk => by simp [oBd, bdF, Value.ownBlock] at hk; omega)
  rw [hq, hW]
  have hc4 := hx2.cell hc3
  have HS := Lib.hid S
  clear S hb2 hq hW hx2 hc3 HX
  have hez : (i : Int) ≤ (e : Int) := by omega
  have hecap : (e : Int) ≤ (cap : Int) := by omega
  have hlen : ((l.take e).drop i).length = e - i := by rw [List.length_drop, List.length_take, HH.out.2.2.2.1]; omega
  have hNs : NodesAt w (.slice (some ⟨b, o + i * 5, none⟩) (e - i) (cap - i)) ((l.take e).drop i) := ⟨_, _, by rw [hlen], by rw [hlen]; omega, HH.out.1.cut i e⟩
  have HA := Lib.hid (add_walk w W _ 0 q (.slice none 0 0) [] _ _ i HS.out rfl hNs (by rw [hlen]; simp; omega) (by omega) (fun x hx => HH.out.2.1 x (List.mem_of_mem_take (List.mem_of_mem_drop hx))))
  clear hNs hlen
  go_wp2_with fail
  refine HA.out.mono ?_
  rintro ee w3 ⟨rfl, v3, Z2, hZ, S⟩
  have hP : BdP w3 q v3 Z2 := S.get 0 rfl
  have c0 : w3.cell? ⟨q, 0, none⟩ = some v3 := cellOf hP.here 0
  have HP := Lib.hid (⟨hP, S, hZ⟩ : _ ∧ _ ∧ _)
  clear hP S hZ HA hc4
  go_wp2_with fail
  go_ret
  refine ⟨_, rfl, HP.out.2.1.ext, ?_⟩
  have hR := HP.out.2.2
  rw [show ((([] : List Zd).length : Nat) : Int) - (i : Int) = -(i : Int) from by simp, HH.out.2.2.1] at hR
  rw [← hR]
  exact HP.out.1.nodes
end Go.Proofs.YtkjcjklnclahdaaDoor.Tr
