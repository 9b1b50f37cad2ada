/-
  slices.SortFunc of refs, as reach.Lost calls it.
-/
import Derived.Test.YtgpgamohcafklaaGreatDoorSoB
import Derived.Test.YtgpgamohcafklaaGreatDoorShB
import Derived.Test.YtgpgamohcafklaaGreatDoorShC
import Derived.Test.YtgpgamohcafklaaGreatDoorRdA
namespace Go.Proofs.YtgpgamohcafklaaGreatDoor.So
open Go.RowKit
open Go.Proofs.YtgpgamohcafklaaGreatDoor.Tr
open Go.Proofs.YtgpgamohcafklaaGreatDoor.Rc

abbrev r1 : Rf → Int := fun x => x.1
abbrev r2 : Rf → Int := fun x => x.2
set_option maxRecDepth 100000 in
set_option maxHeartbeats 4000000 in
theorem lost1_walk (x y : Rf) (W : World) : Calls Tryz.prog 32 #[mkR x, mkR y] W
    fun e w' => e = .returned (.int .i64 (cf2 r1 r2 x y)) ∧ ∃ q os', w' = Go.Sort.grow (W.drewN q) os' := by
  obtain ⟨x1, x2⟩ := x
  obtain ⟨y1, y2⟩ := y
  have h1 := Lib.hid (fun W' => Tryz.cmp_Compare_int x1 y1 W')
  have h2 := Lib.hid (fun W' => Tryz.cmp_Compare_int x2 y2 W')
  show Calls _ _ #[.agg #[.int .i64 x1, .int .i64 x2], .agg #[.int .i64 y1, .int .i64 y2]] _ fun e w' => e = .returned (.int .i64 (if Lib.compareInt x1 y1 ≠ 0 then Lib.compareInt x1 y1 else Lib.compareInt x2 y2)) ∧ _
  generalize Lib.compareInt x1 y1 = r at h1 ⊢
  generalize Lib.compareInt x2 y2 = s at h2 ⊢
  obtain ⟨R, hR⟩ : ∃ R, (if r ≠ 0 then r else s) = R := ⟨_, rfl⟩
  have HO := Lib.hid (fun g W' h0 h1 => or_walk r s g W' h0 h1)
  rw [hR] at HO ⊢
  clear hR
  obtain ⟨V, hV⟩ : ∃ V, (W.alloc (.cells #[.int .i64 x1, .int .i64 x2] 24)).alloc (.cells #[.int .i64 y1, .int .i64 y2] 24) = V := ⟨_, rfl⟩
  have hbA : V.heap[W.heap.size]? = some (.cells #[.int .i64 x1, .int .i64 x2] 24 (0, 0)) := by rw [← hV]; exact heap_alloc_old _ (heap_alloc_at _)
  have hbB : V.heap[W.heap.size + 1]? = some (.cells #[.int .i64 y1, .int .i64 y2] 24 (0, 0)) := by
    have := heap_alloc_at (w := W.alloc (.cells #[.int .i64 x1, .int .i64 x2] 24)) (.cells #[.int .i64 y1, .int .i64 y2] 24)
    rw [show (W.alloc (.cells #[.int .i64 x1, .int .i64 x2] 24)).heap.size = W.heap.size + 1 from by simp, hV] at this
    exact this
  have hVg : V = Go.Sort.grow W #[.cells #[.int .i64 x1, .int .i64 x2] 24 (0, 0), .cells #[.int .i64 y1, .int .i64 y2] 24 (0, 0)] := by rw [← hV, Go.Sort.alloc_eq_grow, Go.Sort.alloc_eq_grow, Go.Sort.grow_grow]; rfl
  have HV := Lib.hid hVg
  have k0 : ∀ y : Gr V, y.w.cell? ⟨W.heap.size, 0, none⟩ = some (.int .i64 x1) := fun y => y.ext.cell (cellOf hbA 0)
  have k1 : ∀ y : Gr V, y.w.cell? ⟨W.heap.size, 1, none⟩ = some (.int .i64 x2) := fun y => y.ext.cell (cellOf hbA 1)
  have k2 : ∀ y : Gr V, y.w.cell? ⟨W.heap.size + 1, 0, none⟩ = some (.int .i64 y1) := fun y => y.ext.cell (cellOf hbB 0)
  have k3 : ∀ y : Gr V, y.w.cell? ⟨W.heap.size + 1, 1, none⟩ = some (.int .i64 y2) := fun y => y.ext.cell (cellOf hbB 1)
  clear hbA hbB hVg
  go_enter Tryz.func32, Tryz.ntmps32
  go_upto_region 1 with (fail)
  (try rw [hV])
  clear hV
  refine wp_region_quiet_tail (C := fun w' => ∃ y : Gr V, w' = y.w) 10 (by kernel_rfl) (by kernel_rfl) (Gr.start V) ?_
  simp only [List.take_succ_cons, List.take_zero, List.drop_succ_cons, List.drop_zero]
  repeat (go_big_quiet_step (fail))
  go_big_quiet_step ((go_at_call 34; refine Calls.gr_of (h1.out _)))
  repeat (go_big_quiet_step (fail))
  go_big_quiet_step ((go_at_call 34; refine Calls.gr_of (h2.out _)))
  refine wpQuiet_nil ?_
  rintro _ ⟨y, rfl⟩
  obtain ⟨q, os, hy⟩ := y.base HV.out
  have HY := Lib.hid hy
  clear hy k0 k1 k2 k3
  go_wp2_with fail
  have hb := heap_alloc_at (w := y.w) (.cells #[.int .i64 r, .int .i64 s] 3)
  refine (HO.out _ _ (cellOf hb 0) (cellOf hb 1)).mono ?_
  rintro e w2 ⟨rfl, rfl⟩
  clear hb
  go_wp2_with fail
  go_ret
  exact ⟨rfl, q, _, by rw [HY.out]; exact grow_alloc _ _ _ _⟩

abbrev encRf (x : Rf) : List Value := [.int .i64 x.1, .int .i64 x.2]
theorem encRf_one (x : Rf) (v : Value) (h : v ∈ encRf x) : v.oneCell' = true := by
  simp [encRf] at h
  rcases h with rfl | rfl <;> rfl
theorem sortR (l E : List (Rf)) (v : Value) (w : World) (h : w.ownsRow 0 24 2 v l.length (l.flatMap encRf)) (hp : E.Perm l) (hs : E.Pairwise fun x y => ltOf (cf2 r1 r2) x y = true) (hn : l.length ≤ 1048576) :
    Calls Tryz.prog 43 #[v, .func (.func 32) #[] #[]] w fun e w' => e = .returned (.tuple #[]) ∧ Ext v.ownBlock.toList w w' ∧ Cells w' 2 encRf v E := by
  by_cases h0 : l.length = 0
  · obtain ⟨ao, cap, rfl⟩ := row_slice h
    have hE : E = [] := List.length_eq_zero_iff.1 (by rw [hp.length_eq]; exact h0)
    subst hE
    rw [h0]
    have hcon := AnyF.slices_SortFunc_none (P := Tryz.prog) (ρ := Tryz.sortRf_ren) { Tryz.sortRf with } ao cap (.func (.func 32) #[] #[]) w
    refine hcon.mono ?_
    rintro e w' ⟨rfl, rfl⟩
    exact ⟨rfl, Ext.refl _ _, ao, cap, rfl, Nat.zero_le _, fun i hi => by simp at hi⟩
  · obtain ⟨g, cap, rfl⟩ := row_form h (by omega)
    have eg : ∀ args w, (callFunc 32 args).run Tryz.prog w = .ok (.enter 32 args) w := enters_of Tryz.func32 (by kernel_rfl) rfl
    have hblk : g < w.heap.size := by
      have := h.lt g (by simp [Value.ownBlock])
      exact this.2
    have hH := row_holds (enc := encRf) (fun _ => rfl) h
    have hcap := row_le h
    have hcon := AnyQ.slices_SortFunc Tryz.sortRf 2 Tryz.isAgg24 Tryz.sizeOf24 encRf (fun _ => rfl) encRf_one (cf2 r1 r2) (swo2 r1 r2) 32 #[] g 0 cap l.toArray w eg (fun m os dk _ x y => lost1_walk x y _) hH hblk (by simp; omega)
    refine hcon.mono ?_
    rintro e w' ⟨rfl, d, n, os, hpm, hso, rfl⟩
    have hd := sorted_gen (fun x y => asy2 r1 r2 x y) hp hs hpm hso
    have hz : d.size = l.length := by have := hpm.1; simpa using this
    refine ⟨rfl, by simpa [Value.ownBlock] using ext_sorted encRf 2 w g n d os, ?_⟩
    have hH2 := holdsK_sortWorldK_c encRf 2 w g 0 l.toArray d n os hH hblk (by rw [hz]; simp)
    have := cells_holds (enc := encRf) (cap := cap) (fun _ => rfl) hH2 (by rw [hz]; exact hcap)
    rw [hd] at this
    rw [show l.length = E.length from hp.length_eq.symm]
    exact this
end Go.Proofs.YtgpgamohcafklaaGreatDoor.So
