/-
  inflate: slices.Repeat of one number, slices.Grow, slices.Concat at int; Fixed, table, full, few walked.
-/
import Derived.Test.YtgjenpdppobpkaaInH
import Derived.Lib.AppendZerosOnto
import Derived.Laws.OwnMore
namespace Go.Proofs.Ytgjenpdppobpkaa.If
open Go.RowKit Bt Hu

set_option maxRecDepth 100000 in
set_option maxHeartbeats 4000000 in
theorem mul64_walk9 (x y : Nat) (w : World) (hx : x ≤ 1000) (hy : y ≤ 1000) :
    Calls Try.prog 67 #[.int .u64 x, .int .u64 y] w fun e w' => e = .returned (.tuple #[.int .u64 0, .int .u64 ((x * y : Nat) : Int)]) ∧ w' = w := by
  have and32 : ∀ z : Nat, z < 4294967296 → bits BinOp.and IntKind.u64 (z : Int) 4294967295 = (z : Int) := fun z hz => by
    have h1 := bits_and_u64_nat z 4294967295 (by omega) (by omega)
    rw [show (4294967295 : Nat) = 2 ^ 32 - 1 from rfl, Nat.and_two_pow_sub_one_eq_mod, Nat.mod_eq_of_lt (by omega)] at h1
    exact h1
  have h1 := and32 x (by omega)
  have h2 := and32 y (by omega)
  have h0 : bits BinOp.and IntKind.u64 (0 : Int) 4294967295 = 0 := and32 0 (by omega)
  have d1 : (x : Int) / 4294967296 = 0 := by omega
  have d2 : (y : Int) / 4294967296 = 0 := by omega
  have hle : x * y ≤ 1000 * 1000 := Nat.mul_le_mul hx hy
  obtain ⟨z, hz⟩ : ∃ z, z = x * y := ⟨_, rfl⟩
  have hm : (x : Int) * (y : Int) = (z : Int) := by rw [hz]; simp
  rw [← hz] at hle ⊢
  have hw : IntKind.u64.wrap (z : Int) = z := by rw [IntKind.wrap_u64]; omega
  have hw0 : IntKind.u64.wrap 0 = 0 := rfl
  have d3 : (z : Int) / 4294967296 = 0 := by omega
  have HZ := Lib.hid hz
  clear hz and32
  go_enter Try.func67, Try.ntmps67
  go_wp2_with fail
  go_ret2
  exact ⟨rfl, rfl⟩
theorem mul_walk9 (y : Nat) (w : World) (hy : y ≤ 1000) :
    Calls Try.prog 50 #[.int .u64 1, .int .u64 y] w fun e w' => e = .returned (.tuple #[.int .u64 0, .int .u64 (y : Int)]) ∧ w = w' := by
  have h64 := fun w => mul64_walk9 1 y w (by omega) hy
  rw [Nat.one_mul] at h64
  have H := Lib.hid h64
  clear h64
  go_enter Try.func50, Try.ntmps50
  go_wp2_with fail
  refine (H.out _).mono ?_
  rintro e w1 ⟨rfl, rfl⟩
  go_wp2_with fail
  go_ret2
  exact ⟨rfl, rfl⟩
theorem copy_int9 {W : World} {g o dLen dCap ln9 cp9 : Nat} {a : Addr} {cur : Array Value} {xs : List Value} (hg : W.heap[g]? = some (.cells cur 3 (0, 0))) (hn : xs.length = Nat.min ln9 dLen)
    (hsrc : ∀ j v, xs[j]? = some v → W.cell? (a.add j) = some v) (hfit : o + xs.length ≤ cur.size) (h1 : ∀ v ∈ xs, v.oneCell' = true) :
    ∃ W', (Builtin.copy_ #[42, 42] 3 #[.slice (some ⟨g, o, none⟩) dLen dCap, .slice (some a) ln9 cp9]).run Try.prog W = .ok (.int .i64 (xs.length : Nat)) W' ∧
      W'.heap[g]? = some (.cells (cur.toList.take o ++ xs ++ cur.toList.drop (o + xs.length)).toArray 3 (0, 0)) ∧ Ext [g] W W' :=
  ⟨_, run_copy_row Try.prog W 42 42 3 3 g o dLen dCap a ln9 cp9 cur 3 xs Try.underlying42 (by kernel_rfl) hg hn hsrc hfit h1, setRow_heap W g cur _ _ _ hg,
    ⟨rfl, rfl, rfl, by simp [World.setRow], fun k _ hk => setRow_other W g k _ (by simpa using hk)⟩⟩
set_option maxRecDepth 100000 in
set_option maxHeartbeats 8000000 in
/-- slices.Repeat of one number -/
theorem repeat1_walk (v : Int) (c : Nat) (a : Addr) (cap : Nat) (w : World) (h1 : 1 ≤ c) (h2 : c ≤ 1000) (hsrc : w.cell? a = some (iz v)) :
    Calls Try.prog 36 #[.slice (some a) 1 cap, .int .i64 c] w (NewInts w (List.replicate c v)) := by
  obtain ⟨i0, hif, hz0, hz1, hz2⟩ := info_parts infoInt7
  obtain ⟨wm, hmk, hown, hgrow⟩ := run_make_full (P := Try.prog) w 0 42 3 i0 (.int .i64 0) 1 Try.underlying42 hif hz0 hz1 .i64 .i64 c (by rw [hz2]; omega) (by unfold maxLen; omega) (by omega)
  have hx4 : Ext [] w wm := (Ext.refl [] w).grown hgrow (fun k hk => by cases hk)
  obtain ⟨cs, hcs, _, _, hcsz, _⟩ := ownsRow_open hown
  obtain ⟨ab, ao, sp0⟩ := a
  obtain rfl : sp0 = none := World.cell?_spot hsrc
  obtain ⟨W2, hcp, hW2, hx2⟩ := copy_int9 (o := 0) (dLen := c) (dCap := c) (ln9 := 1) (cp9 := cap) (a := ⟨ab, ao, none⟩) (xs := [iz v]) hcs (by simp only [List.length_singleton, Nat.min_def]; split <;> omega)
    (fun j u hu => by
      cases j with
      | zero => simp at hu; subst hu; rw [Addr.add_mid, Nat.add_zero]; exact Ext.cell hx4 hsrc
      | succ j => simp at hu) (by simp; omega) (by simp [Value.oneCell'])
  simp only [List.length_singleton] at hcp hW2
  have hx3 : Ext [] w W2 := hx4.trans' hx2 (fun i hi h => by simp at h; omega)
  obtain ⟨q, hq⟩ : ∃ q, w.heap.size = q := ⟨_, rfl⟩
  have hcp : (Builtin.copy_ #[42, 42] 3 #[.slice (some ⟨q, 0, none⟩) c c, .slice (some ⟨ab, ao, none⟩) 1 cap]).run Try.prog wm = .ok (.int .i64 1) W2 := by rw [← hq]; exact hcp
  rw [hq] at hmk hW2
  have j2 : ¬ ((c : Int) < 0) := by omega
  have j5 : ¬ ((9223372036854775807 : Int) < (c : Int)) := by omega
  have HX := Lib.hid (⟨hx3, hW2, hcsz, hq⟩ : _ ∧ _ ∧ _ ∧ _)
  clear hsrc hx4 hown hgrow hcs hx2 hx3 hW2 hcsz hq
  go_enter Try.func36, Try.ntmps36
  go_wp2_with fail
  refine (mul_walk9 c w (by omega)).mono ?_
  rintro e w1 ⟨rfl, rfl⟩
  go_wp2_with fail
  clear hmk hcp j2 j5
  go_loopg [8] (c - 1) (fun gg i wr => ∃ (n : Nat) (cur : Array Value), gg + n = c ∧ i = .int .i64 n ∧ 1 ≤ n ∧ wr.heap[q]? = some (.cells cur 3 (0, 0)) ∧ cur.size = c ∧ cur.toList.take n = (List.replicate n v).map iz ∧ Ext [] w wr)
  case atStart => exact ⟨1, _, by omega, rfl, by omega, HX.out.2.1, by have := HX.out.2.2.1; simp; omega, by simp, HX.out.1⟩
  case round =>
    obtain ⟨n, cur, hg, rfl, hn1, hcur, hsz, htk, hx⟩ := hrel
    have HT := Lib.hid htk
    have HX' := Lib.hid hx
    have HQ := Lib.hid HX.out.2.2.2
    clear HX htk hx
    by_cases hlt : n < c
    · have k1 : (n : Int) < (c : Int) := by omega
      have k2 : (0 : Int) ≤ (n : Int) := by omega
      have k3 : (n : Int) ≤ (c : Int) := by omega
      go_wp2_with fail
      refine wp_region_mid (C := fun w' => ∃ x : ExS [q] wr, w' = x.w) 7 1 (by kernel_rfl) (by kernel_rfl) ⟨ExS.mk _ ((Ext.refl _ wr).drew), rfl⟩ ?_
      simp only [List.take_succ_cons, List.take_zero, List.drop_succ_cons, List.drop_zero]
      repeat (go_big_quiet_step (fail))
      refine wpQuiet_nil ?_
      refine midW_step rfl (fun K hK => ?_)
      obtain ⟨m, hm⟩ : ∃ m, m = Nat.min n (c - n) := ⟨_, rfl⟩
      have hm1 : m ≤ n ∧ m ≤ c - n ∧ (m = n ∨ m = c - n) := by rw [hm]; simp only [Nat.min_def]; split <;> omega
      have hlr : ((List.replicate m v).map iz).length = m := by simp
      obtain ⟨W5, hcp, hW5, hx5⟩ := copy_int9 (W := wr.drew) (g := q) (o := n) (dLen := c - n) (dCap := c - n) (ln9 := n) (cp9 := c) (a := ⟨q, 0, none⟩) (xs := (List.replicate m v).map iz) (show wr.drew.heap[q]? = _ from hcur) (by rw [hlr, hm])
        (fun j u hu => by
          have hj : j < m := by have := (List.getElem?_eq_some_iff.1 hu).1; omega
          refine World.news_of_block (show wr.drew.heap[q]? = _ from hcur) j u ?_
          have h2 : (cur.toList.take n)[j]? = ((List.replicate n v).map iz)[j]? := by rw [HT.out]
          rw [List.getElem?_take_of_lt (by omega)] at h2
          rw [h2, ← hu, List.map_replicate, List.map_replicate, List.getElem?_replicate, List.getElem?_replicate, if_pos (by omega), if_pos hj]) (by omega) (by simp [Value.oneCell'])
      rw [hlr] at hcp
      have HW5 := Lib.hid hW5
      have HX5 := Lib.hid hx5
      have HLR := Lib.hid hlr
      clear hW5 hx5 hm hlr
      go_wp2_with fail
      refine ⟨⟨ExS.mk W5 ((Ext.refl [q] wr).drew.trans HX5.out), rfl⟩, ?_⟩
      clear hcp
      refine midW_nil ?_
      go_wp2_with fail
      refine NoPanic.normal ?_
      go_wp2_with fail
      go_roundg (c - (n + m))
      case measure => omega
      case rel =>
        have e1 : (cur.toList.take n).length = n := by rw [List.length_take]; simp; omega
        refine ⟨n + m, _, by omega, by go_num, by omega, HW5.out, ?_, ?_, (HX'.out.drew).trans' HX5.out (fun i hi h => by have := HQ.out; simp at h; omega)⟩
        · have := HLR.out
          simp only [List.size_toArray, List.length_append, e1, List.length_drop, this]
          simp
          omega
        · have := HLR.out
          rw [List.toList_toArray, List.take_left' (by rw [List.length_append, e1, this]), HT.out, ← List.map_append, List.replicate_append_replicate]
    · obtain rfl : n = c := by omega
      go_wp2_with fail
      go_ret
      refine ⟨.slice (some ⟨q, 0, none⟩) n n, rfl, HX'.out, ⟨by simp, .inr ⟨q, n, cur, by simp, Nat.zero_le _, hcur, by simp, by unfold maxLen; omega, by simpa using hsz, ?_⟩⟩, fun k hk => ?_⟩
      · rw [← HT.out]
        simp
      · have := HQ.out
        simp [Value.ownBlock] at hk
        omega
set_option maxRecDepth 100000 in
set_option maxHeartbeats 8000000 in
theorem GrowI_walk (n : Nat) (w : World) (hn : n ≤ 1073741824) :
    Calls Try.prog 49 #[.slice none 0 0, .int .i64 n] w fun e w' => ∃ ao cap, e = .returned (.slice ao 0 cap) ∧ Ext [] w w' ∧ (oSl 3 1 (.slice ao 0 cap) 0 []).P w' ∧ ∀ k ∈ (Value.slice ao 0 cap).ownBlock.toList, w.heap.size ≤ k := by
  obtain ⟨i0, hif, hz0, hz1, hz2⟩ := info_parts infoInt7
  have j1 : ¬ ((n : Int) < 0) := by omega
  by_cases h0 : n = 0
  · subst h0
    go_enter Try.func49, Try.ntmps49
    go_wp2_with fail
    go_ret
    exact ⟨none, 0, rfl, Ext.refl _ _, World.ownsRow_nil _ _ _ _, by simp [Value.ownBlock]⟩
  · have j2 : (0 : Int) < (n : Int) := by omega
    have hG1 := grownCap_ge w n 0 3
    have hG2 := grownCap_le_maxLen w n 0 3 (by unfold maxLen; omega)
    have hr : ∀ ty, (Builtin.append_ #[42, 3] ty #[.slice none 0 0, .int .i64 (n : Int)]).run Try.prog w = .ok (.slice (some ⟨w.heap.size, 0, none⟩) n (grownCap w n 0 3))
        (w.drew.alloc (.cells (#[] ++ Builtin.zeroCells (Value.int .i64 0).cells n ++ Builtin.zeroCells (Value.int .i64 0).cells (grownCap w n 0 3 - n)) 3)) := fun ty => by
      have h := Lib.run_append_grow_zeros (P := Try.prog) w 42 3 ty 3 i0 (.int .i64 0) .i64 .i64 Try.underlying42 Try.underlying3 hif hz0 none 0 0 [] (run_firstCells_none w.drew i0.size 0 0 0) n (by omega) (by omega) (by omega) (by omega)
        (by rw [hz2]; omega) (by rw [Nat.zero_add]; exact growslice_fits (by omega) (by rw [hz2]; omega))
      simpa using h
    obtain ⟨G, hG⟩ : ∃ G, grownCap w n 0 3 = G := ⟨_, rfl⟩
    rw [hG] at hG1 hG2
    simp only [hG] at hr
    unfold maxLen at hG2
    have g1 : (n : Int) ≤ (G : Int) := by omega
    have g2 : (0 : Int) ≤ (G : Int) := by omega
    clear hG
    go_enter Try.func49, Try.ntmps49
    go_wp2_with (at_builtin; refine Lib.wpList_append_run _ rfl _ _ _ _ rfl _ _ rfl rfl _ _ (hr _) ?_)
    go_ret
    refine ⟨_, _, rfl, ((Ext.refl _ w).drew).alloc _, ⟨rfl, .inr ⟨w.heap.size, G, _, rfl, Nat.zero_le _, heap_alloc_at (w := w.drew) _, Nat.zero_le _, by unfold maxLen; omega, ?_, by simp⟩⟩, by simp [Value.ownBlock]⟩
    simp only [Array.size_append, size_zeroCells]
    simp
    omega
end Go.Proofs.Ytgjenpdppobpkaa.If
