/-
  pagemenderkit.Own over pieces.
-/
import Derived.Test.YtngfhnpelchplaaMtV
namespace Go.Proofs.Ytngfhnpelchplaa.Mt
open Go.RowKit

theorem run_append_of_nil9 {P : Program} (w : World) (base : Nat) (t ty e : TypeId) (i : TypeInfo) (size : Nat) (ht : P.underlying t = some (.slice e)) (hi : P.info? e = some i)
    (v : Value) (n : Nat) (xs : List Value) (hown : w.ownsRow base e size v n xs) (c : Nat) : (Builtin.append_ #[t, t] ty #[v, .slice none 0 c]).run P w = .ok v w := by
  rcases hown.2 with ⟨rfl, rfl⟩ | ⟨g, cap, cur, rfl, _, _, hnc, _⟩
  · simp [Builtin.append_, run_underlying ht, sizeOf, typeInfo, hi, Builtin.lenOf, Builtin.firstCells]
  · simp [Builtin.append_, run_underlying ht, sizeOf, typeInfo, hi, Builtin.lenOf, Builtin.firstCells, hnc, storeCells]
theorem div3 (j : Nat) : j = (j / 3) * 3 ∨ j = (j / 3) * 3 + 1 ∨ j = (j / 3) * 3 + 2 := by omega
theorem PcAt.cells {w : World} {b off n cap : Nat} {l : List Pc} (h : PcAt w (.slice (some ⟨b, off, none⟩) n cap) l) (j : Nat) (u : Value) (hu : (pcC l)[j]? = some u) : w.cell? ⟨b, off + j, none⟩ = some u := by
  have hj : j < l.length * 3 := by have := (List.getElem?_eq_some_iff.1 hu).1; rw [pcC_len] at this; exact this
  obtain ⟨ao, cap', he, hc⟩ := h
  obtain ⟨b', off', rfl, hcell⟩ := hc (by omega)
  injection he with h1 h2 h3
  injection h1 with h1
  injection h1 with h4 h5
  subst h4 h5
  have hi : j / 3 < l.length := by omega
  obtain ⟨x, hx⟩ : ∃ x, l[j / 3]? = some x := ⟨_, List.getElem?_eq_getElem hi⟩
  obtain ⟨e0, e1, e2⟩ := pcC_at l _ x hx
  obtain ⟨c0, c1, c2⟩ := hcell _ x hx
  rcases div3 j with h | h | h
  · rw [h, e0] at hu; rw [h]; rw [← hu]; exact c0
  · rw [h, e1] at hu; rw [h, ← Nat.add_assoc]; rw [← hu]; exact c1
  · rw [h, e2] at hu; rw [h, ← Nat.add_assoc]; rw [← hu]; exact c2
set_option maxRecDepth 100000 in
set_option maxHeartbeats 8000000 in
theorem Own_walk (v : Value) (l : List Pc) (w : World) (hv : PcArg w v l) (hl : l.length ≤ 1048576) :
    Calls Try.prog 19 #[v] w fun e w' => ∃ v', e = .returned v' ∧ Ext [] w w' ∧ PcAt w' v' l := by
  obtain ⟨i0, hif, hz0, hz1, hz2⟩ := info_parts infoPiece
  obtain ⟨hP, ao, cap, rfl, hcap, hcm, hnil⟩ := hv
  obtain ⟨W, hW⟩ : ∃ W, w.alloc (.cells #[] 34) = W := ⟨_, rfl⟩
  have hxW : Ext [] w W := by rw [← hW]; exact (Ext.refl _ w).alloc _
  have hE : W.ownsRow 0 34 3 (.slice (some ⟨w.heap.size, 0, none⟩) 0 0) 0 [] := by
    rw [← hW]
    exact ⟨rfl, .inr ⟨w.heap.size, 0, #[], rfl, Nat.zero_le _, heap_alloc_at _, Nat.le_refl _, by unfold maxLen; omega, rfl, rfl⟩⟩
  have run : ∃ v' w', (∀ ty, (Builtin.append_ #[23, 23] ty #[.slice (some ⟨w.heap.size, 0, none⟩) 0 0, .slice ao l.length cap]).run Try.prog W = .ok v' w') ∧ Ext [] w w' ∧ PcAt w' v' l := by
    cases ao with
    | none =>
      obtain rfl : cap = 0 := hnil rfl
      have h0 : l = [] := List.eq_nil_of_length_eq_zero (by omega)
      subst h0
      exact ⟨_, W, fun ty => run_append_of_nil9 W 0 23 ty 34 i0 3 Try.underlying23 hif _ 0 [] hE 0, hxW, PcAt.of_own hE⟩
    | some a =>
      have hz : l.length = 0 ∨ 0 < l.length := by omega
      have hcells : ∀ j u, (pcC l)[j]? = some u → W.cell? (a.add j) = some u := fun j u hu => by
        have hlen : 0 < l.length := by
          have := (List.getElem?_eq_some_iff.1 hu).1
          rw [pcC_len] at this
          omega
        have hP2 := hP
        obtain ⟨ao2, cap2, he, hc⟩ := hP2
        obtain ⟨b, off, rfl, _⟩ := hc hlen
        injection he with h1 _ _
        injection h1 with h1
        subst h1
        have ad : (⟨b, off, none⟩ : Addr).add j = ⟨b, off + j, none⟩ := by unfold Addr.add; split <;> simp_all
        rw [ad]
        exact Ext.cell hxW (hP.cells j u hu)
      have h1 : ∀ u ∈ pcC l, u.oneCell' = true := fun u hu => by
        unfold pcC at hu
        obtain ⟨x, _, hx⟩ := List.mem_flatMap.1 hu
        simp at hx
        rcases hx with rfl | rfl | rfl <;> rfl
      have key : ∀ ty, ∃ v' w', (Builtin.append_ #[23, 23] ty #[.slice (some ⟨w.heap.size, 0, none⟩) 0 0, .slice (some a) l.length cap]).run Try.prog W = .ok v' w' ∧ Ext [] w w' ∧ PcAt w' v' l := fun ty => by
        obtain ⟨v', w', hr, hown, hgr, _, _⟩ := run_append_own_at (P := Try.prog) W 0 23 ty 34 i0 _ 3 24 Try.underlying23 hif hz0 hz1 hz2 rfl (by decide) _ 0 [] hE a l.length cap (pcC l) (pcC_len l) hcells h1 (by unfold maxLen; omega) (by omega) (Nat.zero_le _)
        rw [Nat.zero_add] at hown
        exact ⟨v', w', hr, hxW.trans' (T := [w.heap.size]) ((Ext.refl _ W).grown hgr (fun k hk => .inl (by simpa [Value.ownBlock] using hk.symm))) (fun i hi h => by simp at h; omega), PcAt.of_own hown⟩
      obtain ⟨v', w', hr, hx, hp⟩ := key 0
      exact ⟨v', w', fun ty => hr, hx, hp⟩
  obtain ⟨v', w', hr, hx, hp⟩ := run
  have HXP := Lib.hid (⟨hx, hp⟩ : _ ∧ _)
  rw [← hW] at hr
  clear hP hx hp hE hxW hW
  go_enter Try.func19, Try.ntmps19
  go_wp2_with (at_builtin; refine wpList_plain rfl (fun K hK => wp_append_run _ _ _ _ rfl rfl rfl (hr _) (hK _ _ ?_)))
  go_ret
  exact ⟨_, rfl, HXP.out.1, HXP.out.2⟩
end Go.Proofs.Ytngfhnpelchplaa.Mt
