/-
  huff: the heap's methods walked.
-/
import Derived.Test.YtchhgbhbldfofaaHuA
namespace Go.Proofs.Ytchhgbhbldfofaa.Hu
open Go.RowKit

theorem swp_map (H : List Pn) (i j : Nat) : (swp H i j).map pv = ((H.map pv).set i (pv (at_ H j))).set j (pv (at_ H i)) := by
  unfold swp
  rw [List.map_set, List.map_set]
theorem at_mem {H : List Pn} {i : Nat} (h : i < H.length) : at_ H i ∈ H := List.mem_of_getElem? (at_get h)
theorem mem_swp {H : List Pn} {i j : Nat} (hi : i < H.length) (hj : j < H.length) {p : Pn} (h : p ∈ swp H i j) : p ∈ H := by
  unfold swp at h
  rcases List.mem_or_eq_of_mem_set h with h | h
  · rcases List.mem_or_eq_of_mem_set h with h | h
    · exact h
    · rw [h]; exact at_mem hj
  · rw [h]; exact at_mem hi
set_option maxRecDepth 100000 in
set_option maxHeartbeats 4000000 in
theorem swap_walk (v : Value) (N : List Nat) (H : List Pn) (i j : Nat) (w : World) (hR : HpR w v N H) (hi : i < H.length) (hj : j < H.length) :
    Calls Try.prog 83 #[v, .int .i64 i, .int .i64 j] w fun e w' => e = .returned (.tuple #[]) ∧ Ext v.ownBlock.toList w w' ∧ HpR w' v N (swp H i j) := by
  obtain ⟨g, cap, rfl, _, _⟩ := hR.form (by omega)
  have ci : w.cell? ⟨g, i, none⟩ = some (ptr (at_ H i).1) := hR.cell hi
  have cj : w.cell? ⟨g, j, none⟩ = some (ptr (at_ H j).1) := hR.cell hj
  have fi : w.frozen? ⟨g, i, none⟩ = false := ownsRow_free hR.own i
  have fj : w.frozen? ⟨g, j, none⟩ = false := ownsRow_free hR.own j
  have hst := ownsRow_store (i := j) (ownsRow_store (i := i) hR.own (pv (at_ H j))) (pv (at_ H i))
  rw [← swp_map] at hst
  have hx2 : Ext [g] w ((w.setCell ⟨g, i, none⟩ (pv (at_ H j))).setCell ⟨g, j, none⟩ (pv (at_ H i))) := ((Ext.refl [g] w).setCell _ _ (.inl (by simp))).setCell _ _ (.inl (by simp))
  have hfin : Ext [g] w ((w.setCell ⟨g, i, none⟩ (ptr (at_ H j).1)).setCell ⟨g, j, none⟩ (ptr (at_ H i).1)) ∧ HpR ((w.setCell ⟨g, i, none⟩ (ptr (at_ H j).1)).setCell ⟨g, j, none⟩ (ptr (at_ H i).1)) (.slice (some ⟨g, 0, none⟩) H.length cap) N (swp H i j) := by
    have hgN : ∀ k ∈ N, k ∉ [g] := fun k hk h => by simp at h; subst h; exact hR.far k rfl hk
    refine ⟨hx2, ⟨by rw [swp_len]; exact hst, hR.far, fun p hp => (hR.nds p (mem_swp hi hj hp)).ext hx2 hgN, fun k hk => Nat.lt_of_lt_of_le (hR.lt k hk) hx2.size⟩⟩
  have HF := Lib.hid hfin
  have cj2 : (w.setCell ⟨g, i, none⟩ (ptr (at_ H j).1)).cell? ⟨g, j, none⟩ = some (ptr (at_ H j).1) := by
    refine ownsRow_at (ownsRow_store (i := i) hR.own (pv (at_ H j))) ?_
    rw [List.getElem?_set]
    split
    · rw [if_pos (by rw [List.length_map]; omega)]; rfl
    · rw [List.getElem?_map, at_get hj]; rfl
  have fj2 : (w.setCell ⟨g, i, none⟩ (ptr (at_ H j).1)).frozen? ⟨g, j, none⟩ = false := ownsRow_free (ownsRow_store (i := i) hR.own (pv (at_ H j))) j
  generalize (at_ H i).1 = x at *
  generalize (at_ H j).1 = y at *
  clear hfin hst hx2 hR
  go_enter Try.func83, Try.ntmps83
  go_wp2_with fail
  go_region
  go_wp2_with fail
  go_end0
  exact ⟨rfl, HF.out.1.drew, HF.out.2.ext ((Ext.refl [] _).drew) (by simp) (by simp)⟩
/-! ### methods of *nodes, called through heap.Interface -/
theorem run_wrapNil (ts : Array TypeId) (t : TypeId) (a : Addr) (x y : String) (w : World) : (Builtin.ssaWrapNilChk_ ts t #[.pointer (some a), strVal x, strVal y]).run Try.prog w = .ok (.pointer (some a)) w := rfl
theorem method_of {w : World} {lb : Nat} {v : Value} (name : String) (f : FuncId) (k : Nat) (hc : w.cell? ⟨lb, 0, none⟩ = some v)
    (hm : ((Try.prog.info? 96).bind fun i => (i.methods.find? (·.name == name)).map fun m => (m.path, m.func)) = some (#[], some (f, false))) :
    (method (k + 1) 96 (ptr lb) name).run Try.prog w = .ok (f, v) w := by
  cases hi : Try.prog.info? 96 with
  | none => rw [hi] at hm; cases hm
  | some i =>
    rw [hi] at hm
    simp only [Option.bind_some] at hm
    cases hf : i.methods.find? (·.name == name) with
    | none => rw [hf] at hm; cases hm
    | some m =>
      rw [hf] at hm
      simp only [Option.map_some, Option.some.injEq, Prod.mk.injEq] at hm
      obtain ⟨h1, h2⟩ := hm
      simp [method, typeInfo, hi, hf, h1, h2, follow, receiverAt, run_underlying Try.underlying96, Place.get, run_wrapNil, asAddr, loadVar, hc, go_sem]
theorem method_ptr {w : World} {lb : Nat} (name : String) (f : FuncId) (k : Nat)
    (hm : ((Try.prog.info? 96).bind fun i => (i.methods.find? (·.name == name)).map fun m => (m.path, m.func)) = some (#[], some (f, true))) :
    (method (k + 1) 96 (ptr lb) name).run Try.prog w = .ok (f, ptr lb) w := by
  cases hi : Try.prog.info? 96 with
  | none => rw [hi] at hm; cases hm
  | some i =>
    rw [hi] at hm
    simp only [Option.bind_some] at hm
    cases hf : i.methods.find? (·.name == name) with
    | none => rw [hf] at hm; cases hm
    | some m =>
      rw [hf] at hm
      simp only [Option.map_some, Option.some.injEq, Prod.mk.injEq] at hm
      obtain ⟨h1, h2⟩ := hm
      simp [method, typeInfo, hi, hf, h1, h2, follow, receiverAt, run_underlying Try.underlying96, Place.get, go_sem]
theorem m_len {w : World} {lb : Nat} {v : Value} (hc : w.cell? ⟨lb, 0, none⟩ = some v) : (method 238 96 (ptr lb) "Len").run Try.prog w = .ok (81, v) w := method_of "Len" _ _ hc (by kernel_rfl)
theorem m_less {w : World} {lb : Nat} {v : Value} (hc : w.cell? ⟨lb, 0, none⟩ = some v) : (method 238 96 (ptr lb) "Less").run Try.prog w = .ok (82, v) w := method_of "Less" _ _ hc (by kernel_rfl)
theorem m_swap {w : World} {lb : Nat} {v : Value} (hc : w.cell? ⟨lb, 0, none⟩ = some v) : (method 238 96 (ptr lb) "Swap").run Try.prog w = .ok (83, v) w := method_of "Swap" _ _ hc (by kernel_rfl)
theorem m_push (w : World) (lb : Nat) : (method 238 96 (ptr lb) "Push").run Try.prog w = .ok (88, ptr lb) w := method_ptr "Push" _ _ (by kernel_rfl)
theorem m_pop (w : World) (lb : Nat) : (method 238 96 (ptr lb) "Pop").run Try.prog w = .ok (87, ptr lb) w := method_ptr "Pop" _ _ (by kernel_rfl)
end Go.Proofs.Ytchhgbhbldfofaa.Hu
