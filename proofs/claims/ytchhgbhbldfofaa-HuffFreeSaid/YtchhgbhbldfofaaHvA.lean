/-
  The document's nodes (chapter 7): 'ahead' walked; the least node, plain.
-/
import Derived.Test.YtchhgbhbldfofaaHuX
import Derived.Test.YtchhgbhbldfofaaHuZ
namespace Go.Proofs.Ytchhgbhbldfofaa.Hu
open Go.RowKit

/-- a node's value -/
def rnV (x : Nd) (pv : Value) : Value := .agg #[iz x.cnt, .bool x.mk, iz x.age, pv]
set_option maxHeartbeats 4000000 in
theorem ahead_walk (x y : Nd) (px py : Value) (hpx : ∃ a n c, px = .slice a n c) (hpy : ∃ a n c, py = .slice a n c) (w : World) :
    Calls Try.prog 60 #[rnV x px, rnV y py] w fun e w' => e = .returned (.bool (ndLt x y)) ∧ Ext [] w w' := by
  obtain ⟨a1, n1, c1, rfl⟩ := hpx
  obtain ⟨a2, n2, c2, rfl⟩ := hpy
  obtain ⟨W, hW⟩ : ∃ W, (w.alloc (.cells #[iz x.cnt, .bool x.mk, iz x.age, .slice a1 n1 c1] 102)).alloc (.cells #[iz y.cnt, .bool y.mk, iz y.age, .slice a2 n2 c2] 102) = W := ⟨_, rfl⟩
  have hx : Ext [] w W := by rw [← hW]; exact ((Ext.refl [] w).alloc _).alloc _
  have hb1 : W.heap[w.heap.size]? = some (.cells #[iz x.cnt, .bool x.mk, iz x.age, .slice a1 n1 c1] 102 (0, 0)) := by rw [← hW]; exact heap_alloc_old _ (heap_alloc_at _)
  have hb2 : W.heap[w.heap.size + 1]? = some (.cells #[iz y.cnt, .bool y.mk, iz y.age, .slice a2 n2 c2] 102 (0, 0)) := by
    have h : (w.alloc (.cells #[iz x.cnt, .bool x.mk, iz x.age, .slice a1 n1 c1] 102)).heap.size = w.heap.size + 1 := by simp
    rw [← hW, ← h]; exact heap_alloc_at _
  have x0 : W.cell? ⟨w.heap.size, 0, none⟩ = some (iz x.cnt) := cellOf hb1 0
  have x1 : W.cell? ⟨w.heap.size, 1, none⟩ = some (.bool x.mk) := cellOf hb1 1
  have x2 : W.cell? ⟨w.heap.size, 2, none⟩ = some (iz x.age) := cellOf hb1 2
  have y0 : W.cell? ⟨w.heap.size + 1, 0, none⟩ = some (iz y.cnt) := cellOf hb2 0
  have y1 : W.cell? ⟨w.heap.size + 1, 1, none⟩ = some (.bool y.mk) := cellOf hb2 1
  have y2 : W.cell? ⟨w.heap.size + 1, 2, none⟩ = some (iz y.age) := cellOf hb2 2
  have HX := Lib.hid hx
  clear hx hb1 hb2
  obtain ⟨R, hR⟩ : ∃ R, ndLt x y = R := ⟨_, rfl⟩
  rw [hR]
  have hR2 : R = true ↔ x.cnt < y.cnt ∨ (x.cnt = y.cnt ∧ (b2i x.mk < b2i y.mk ∨ (b2i x.mk = b2i y.mk ∧ x.age < y.age))) := by rw [← hR]; exact ndLt_iff x y
  have HR := Lib.hid hR2
  clear hR hR2
  unfold rnV
  generalize x.cnt = xc at *
  generalize y.cnt = yc at *
  generalize x.mk = xm at *
  generalize y.mk = ym at *
  generalize x.age = xa at *
  generalize y.age = ya at *
  go_enter Try.func60, Try.ntmps60
  go_wp2_with fail
  · rename_i h
    go_ret
    refine ⟨congrArg Ending.returned (congrArg Value.bool ?_), HX.out⟩
    rw [Bool.eq_iff_iff, HR.out, decide_eq_true_iff]
    simp at h
    omega
  · rename_i h
    have h0 : (xc != yc) = false := by assumption
    go_ret
    refine ⟨congrArg Ending.returned (congrArg Value.bool ?_), HX.out⟩
    rw [Bool.eq_iff_iff, HR.out]
    simp at h0
    subst h0
    cases xm <;> cases ym <;> simp [b2i] at h ⊢
  · rename_i h
    have h0 : (xc != yc) = false := by assumption
    go_ret
    refine ⟨congrArg Ending.returned (congrArg Value.bool ?_), HX.out⟩
    rw [Bool.eq_iff_iff, HR.out, decide_eq_true_iff]
    simp at h0
    subst h0
    cases xm <;> cases ym <;> simp [b2i] at h ⊢
end Go.Proofs.Ytchhgbhbldfofaa.Hu
