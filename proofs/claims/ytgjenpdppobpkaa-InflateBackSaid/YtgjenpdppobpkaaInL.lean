/-
  inflate: an append of noughts; row walked.
-/
import Derived.Test.YtgjenpdppobpkaaInK
namespace Go.Proofs.Ytgjenpdppobpkaa.If
open Go.RowKit Bt Hu

theorem z_cells : (Value.int .i64 0).cells = #[.int .i64 0] := rfl
theorem zero_cells (k : Nat) : Builtin.zeroCells (Value.int .i64 0).cells k = ((List.replicate k (0 : Int)).map iz).toArray := by
  rw [z_cells]
  apply Array.ext
  · rw [size_zeroCells]
    simp
  · intro i h1 h2
    simp [Builtin.zeroCells]
    rw [Nat.mod_one]
    rfl
theorem app_zeros (w : World) (v : Value) (xs : List Int) (k : Nat) (h : w.ownsRow 0 3 1 v xs.length (xs.map iz)) (h0 : 0 < k) (hl : xs.length + k ≤ 1048576) :
    ∃ ao2 cap2 w2, (∀ ty, (Builtin.append_ #[42, 3] ty #[v, .int .i64 (k : Int)]).run Try.prog w = .ok (.slice ao2 (xs ++ List.replicate k 0).length cap2) w2) ∧ w2.ownsRow 0 3 1 (.slice ao2 (xs ++ List.replicate k 0).length cap2) (xs ++ List.replicate k 0).length ((xs ++ List.replicate k 0).map iz) ∧ Ext v.ownBlock.toList w w2 ∧ Fr w v.ownBlock.toList (Value.slice ao2 (xs ++ List.replicate k 0).length cap2).ownBlock.toList := by
  obtain ⟨i0, hif, hz0, hz1, hz2⟩ := info_parts infoInt7
  have e1 : (xs ++ List.replicate k 0).length = xs.length + k := by simp
  have e2 : (xs ++ List.replicate k 0).map iz = xs.map iz ++ (List.replicate k (0 : Int)).map iz := by simp
  rw [e1, e2]
  have hml : xs.length + k ≤ maxLen := by unfold maxLen; omega
  have grown : ∀ (old : Nat), old < xs.length + k →
      (w.drew.alloc (.cells ((xs.map iz).toArray ++ Builtin.zeroCells (Value.int .i64 0).cells k ++ Builtin.zeroCells (Value.int .i64 0).cells (grownCap w (xs.length + k) old 3 - (xs.length + k))) 3)).ownsRow 0 3 1
        (.slice (some ⟨w.heap.size, 0, none⟩) (xs.length + k) (grownCap w (xs.length + k) old 3)) (xs.length + k) (xs.map iz ++ (List.replicate k (0 : Int)).map iz) := by
    intro old ho
    have hge := grownCap_ge w (xs.length + k) old 3
    have hcm : grownCap w (xs.length + k) old 3 ≤ maxLen := grownCap_le_maxLen w (xs.length + k) old 3 hml
    refine ⟨by simp, .inr ⟨w.heap.size, _, _, rfl, Nat.zero_le _, heap_alloc_new w.drew _, hge, hcm, ?_, ?_⟩⟩
    · simp only [Array.size_append, List.size_toArray, size_zeroCells, List.length_map, z_cells]
      simp
      omega
    · rw [zero_cells]
      simp only [Array.toList_append, List.append_assoc]
      rw [← List.append_assoc]
      exact List.take_left' (by simp)
  have gcell := h.2
  rcases h.2 with ⟨rfl, hn⟩ | ⟨g, cap, cur, rfl, _, hg, hnc, hcm, hcs, htake⟩
  · obtain rfl : xs = [] := List.eq_nil_of_length_eq_zero hn
    have hr : ∀ ty, (Builtin.append_ #[42, 3] ty #[.slice none 0 0, .int .i64 (k : Int)]).run Try.prog w = .ok (.slice (some ⟨w.heap.size, 0, none⟩) (0 + k) (grownCap w (0 + k) 0 3))
        (w.drew.alloc (.cells ((([] : List Int).map iz).toArray ++ Builtin.zeroCells (Value.int .i64 0).cells k ++ Builtin.zeroCells (Value.int .i64 0).cells (grownCap w (0 + k) 0 3 - (0 + k))) 3)) := fun ty =>
      Lib.run_append_grow_zeros (P := Try.prog) w 42 3 ty 3 i0 (.int .i64 0) .i64 .i64 Try.underlying42 Try.underlying3 hif hz0 none 0 0 [] (run_firstCells_none w.drew i0.size 0 0 0) k (by omega) (by omega) (by omega) (by omega)
        (by rw [hz2]; omega) (growslice_fits (by omega) (by rw [hz2]; simp at hl; omega))
    exact ⟨_, _, _, hr, grown 0 (by simp; omega), ((Ext.refl _ w).drew).alloc _, fun q hq => .inr (by simp [Value.ownBlock] at hq; omega)⟩
  · by_cases hroom : xs.length + k ≤ cap
    · have hcs' : cur.size = cap := by simpa using hcs
      have hst := run_storeCells_at Try.prog g xs.length 3 ((List.replicate k (0 : Int)).map iz) 0 cur w hg (by simp; omega) (by simp [Value.oneCell'])
      simp only [Nat.add_zero] at hst
      have hw : IntKind.i64.wrap (k : Int) = k := by rw [IntKind.wrap_i64]; omega
      have hneg : ¬ ((k : Int) < 0) := by omega
      have h48i : ¬ (281474976710656 < (k : Int) * (i0.bytes : Int)) := by rw [hz2]; omega
      have hk0 : k ≠ 0 := by omega
      have hzc := zero_cells k
      have hr : ∀ ty, (Builtin.append_ #[42, 3] ty #[.slice (some ⟨g, 0, none⟩) xs.length cap, .int .i64 (k : Int)]).run Try.prog w = .ok (.slice (some ⟨g, 0, none⟩) (xs.length + k) cap)
          (w.setRow g (cur.toList.take xs.length ++ (List.replicate k (0 : Int)).map iz ++ cur.toList.drop (xs.length + ((List.replicate k (0 : Int)).map iz).length)).toArray) := fun ty => by
        simp only [Builtin.append_]
        simp [run_underlying Try.underlying42, run_underlying Try.underlying3, sizeOf, typeInfo, zeroValue, hif, hz0, hz1, asInt, asIntOf, hw, hneg, h48i, hroom, hk0, Addr.add_lit]
        rw [hzc]
        simp at hst
        rw [List.toList_toArray, List.map_replicate, hst]
        rfl
      refine ⟨_, _, _, hr, ⟨by simp, .inr ⟨g, cap, _, rfl, Nat.zero_le _, setRow_heap w g cur _ 3 _ hg, hroom, hcm, ?_, ?_⟩⟩, ⟨rfl, rfl, rfl, by simp, fun q _ hq => setRow_other w g q _ (by simpa [Value.ownBlock] using hq)⟩, fun q hq => .inl (by simpa [Value.ownBlock] using hq)⟩
      · simp only [List.size_toArray, List.length_append, List.length_take, List.length_drop, Array.length_toList, List.length_map, List.length_replicate]
        omega
      · rw [Nat.mul_one] at htake
        rw [Nat.mul_one, htake]
        exact List.take_left' (by simp)
    · have holds : ∀ j u, (xs.map iz)[j]? = some u → w.cell? ((⟨g, 0, none⟩ : Addr).add j) = some u := h.cells (g := g) rfl
      have hr : ∀ ty, (Builtin.append_ #[42, 3] ty #[.slice (some ⟨g, 0, none⟩) xs.length cap, .int .i64 (k : Int)]).run Try.prog w = .ok (.slice (some ⟨w.heap.size, 0, none⟩) (xs.length + k) (grownCap w (xs.length + k) cap 3))
          (w.drew.alloc (.cells ((xs.map iz).toArray ++ Builtin.zeroCells (Value.int .i64 0).cells k ++ Builtin.zeroCells (Value.int .i64 0).cells (grownCap w (xs.length + k) cap 3 - (xs.length + k))) 3)) := fun ty =>
        Lib.run_append_grow_zeros (P := Try.prog) w 42 3 ty 3 i0 (.int .i64 0) .i64 .i64 Try.underlying42 Try.underlying3 hif hz0 (some ⟨g, 0, none⟩) xs.length cap (xs.map iz)
          (run_firstCells_some w.drew i0.size xs.length ⟨g, 0, none⟩ xs.length cap (xs.map iz) (by simp [hz1]) holds) k (by omega) (by omega) (by omega) (by omega) (by rw [hz2]; omega) (growslice_fits (by omega) (by rw [hz2]; omega))
      exact ⟨_, _, _, hr, grown cap (by omega), ((Ext.refl _ w).drew).alloc _, fun q hq => .inr (by simp [Value.ownBlock] at hq; omega)⟩
end Go.Proofs.Ytgjenpdppobpkaa.If
