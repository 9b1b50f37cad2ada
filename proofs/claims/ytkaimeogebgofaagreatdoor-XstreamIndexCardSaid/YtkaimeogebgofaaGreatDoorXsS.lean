/-
  slices.SortFunc of entries by their numbers, as xstream.Read calls it.
-/
import Derived.Test.YtkaimeogebgofaaGreatDoorXsG
import Derived.Test.YtkaimeogebgofaaGreatDoorShB
import Derived.Test.YtkaimeogebgofaaGreatDoorShC
namespace Go.Proofs.YtkaimeogebgofaaGreatDoor.Xs
open Go.RowKit
open Go.Proofs.YtkaimeogebgofaaGreatDoor.Tr

instance : Inhabited En := ⟨⟨0, 0, 0, 0⟩⟩
abbrev encE (x : En) : List Value := [.int .i64 x.num, .int .i64 x.kind, .int .i64 x.a, .int .i64 x.b]
theorem encE_one (x : En) (v : Value) (h : v ∈ encE x) : v.oneCell' = true := by
  simp [encE] at h
  rcases h with rfl | rfl | rfl | rfl <;> rfl
abbrev cfE (x y : En) : Int := Lib.compareInt x.num y.num
theorem ltE (x y : En) : ltOf cfE x y = decide (x.num < y.num) := by
  unfold ltOf cfE Lib.compareInt
  by_cases h : x.num < y.num
  · rw [if_pos h, decide_eq_true h]; rfl
  · rw [if_neg h, decide_eq_false h]
    split <;> rfl
theorem swoE : Go.Sort.SWO (ltOf cfE) where
  irrefl := fun x => by rw [ltE]; exact decide_eq_false (by omega)
  trans := fun x y z h1 h2 => by
    rw [ltE] at h1 h2 ⊢
    have h1 := of_decide_eq_true h1
    have h2 := of_decide_eq_true h2
    exact decide_eq_true (by omega)
  ntrans := fun x y z h1 h2 => by
    rw [ltE] at h1 h2 ⊢
    have h1 := of_decide_eq_false h1
    have h2 := of_decide_eq_false h2
    exact decide_eq_false (by omega)
theorem alloc_grown (w : World) (o : Obj) : w.alloc o = Go.Sort.grow w #[o] := Go.Sort.alloc_eq_grow w o
set_option maxHeartbeats 1000000 in
theorem read1_walk (x y : En) (W : World) : Calls Tryz.prog 29 #[.agg #[.int .i64 x.num, .int .i64 x.kind, .int .i64 x.a, .int .i64 x.b], .agg #[.int .i64 y.num, .int .i64 y.kind, .int .i64 y.a, .int .i64 y.b]] W
    fun e w' => e = .returned (.int .i64 (cfE x y)) ∧ ∃ q os', w' = Go.Sort.grow (W.drewN q) os' := by
  obtain ⟨a0, a1, a2, a3⟩ := x
  obtain ⟨b0, b1, b2, b3⟩ := y
  have hcon := Lib.hid (fun W' => Tryz.cmp_Compare_int a0 b0 W')
  show Calls _ _ _ _ fun e w' => e = .returned (.int .i64 (Lib.compareInt a0 b0)) ∧ _
  generalize Lib.compareInt a0 b0 = r at hcon ⊢
  go_enter Tryz.func29, Tryz.ntmps29
  go_wp2_with (go_at_call 30; refine (hcon.out _).mono ?_; rintro e w' ⟨rfl, rfl⟩)
  go_ret
  exact ⟨rfl, 0, _, by rw [Go.Sort.alloc_eq_grow, Go.Sort.alloc_eq_grow, Go.Sort.grow_grow]; rfl⟩
theorem flatE (l : List En) (j : Nat) (hj : j < l.length * 4) : (enC l)[j]? = some ((Go.Sort.flatK encE 4 l.toArray)[j]!) := by
  rw [Go.Sort.get_flatK _ _ _ _ (by simpa using hj)]
  have hi : j / 4 < l.length := by omega
  have he : l.toArray[j / 4]! = l[j / 4]'hi := by
    rw [getElem!_pos l.toArray (j / 4) (by simpa using hi)]
    simp
  rw [he]
  obtain ⟨h0, h1, h2, h3⟩ := enC_at l (j / 4) hi
  have : j % 4 = 0 ∨ j % 4 = 1 ∨ j % 4 = 2 ∨ j % 4 = 3 := by omega
  rcases this with h | h | h | h <;> rw [h]
  · exact (show (enC l)[j]? = (enC l)[j / 4 * 4]? by congr 1; omega).trans h0
  · exact (show (enC l)[j]? = (enC l)[j / 4 * 4 + 1]? by congr 1; omega).trans h1
  · exact (show (enC l)[j]? = (enC l)[j / 4 * 4 + 2]? by congr 1; omega).trans h2
  · exact (show (enC l)[j]? = (enC l)[j / 4 * 4 + 3]? by congr 1; omega).trans h3
theorem holdsE {w : World} {g cap : Nat} {l : List En} (h : w.ownsRow 0 37 4 (.slice (some ⟨g, 0, none⟩) l.length cap) l.length (enC l)) : Go.Sort.HoldsK encE 4 w g 0 l.toArray := fun j hj => by
  rw [Go.Sort.size_flatK, List.size_toArray] at hj
  rw [Nat.zero_add]
  exact ⟨row_cell h (flatE l j hj), row_free h j⟩
theorem ens_holds {w : World} {g cap : Nat} {d : Array En} (h : Go.Sort.HoldsK encE 4 w g 0 d) (hc : d.size ≤ cap) : EnsAt w (.slice (some ⟨g, 0, none⟩) d.toList.length cap) d.toList := by
  refine ⟨some ⟨g, 0, none⟩, cap, rfl, by simpa using hc, fun i hi => ⟨g, 0, rfl, ?_⟩⟩
  have hi2 : i < d.size := by simpa using hi
  have c0 := (h.cell (c := 0) hi2 (by omega)).1
  have c1 := (h.cell (c := 1) hi2 (by omega)).1
  have c2 := (h.cell (c := 2) hi2 (by omega)).1
  have c3 := (h.cell (c := 3) hi2 (by omega)).1
  rw [getElem!_pos d i hi2] at c0 c1 c2 c3
  rw [Array.getElem_toList]
  exact ⟨c0, c1, c2, c3⟩
theorem ext_sorted (w : World) (g n : Nat) (d : Array En) (os : Array Obj) : Ext [g] w (Go.Proofs.sortWorldK encE 4 w g 0 n d os) := by
  refine ⟨rfl, rfl, rfl, ?_, fun k hk hS => ?_⟩
  · unfold Go.Proofs.sortWorldK Go.Sort.putRowK
    rw [Go.Sort.size_grow, Go.Sort.size_putRow]
    exact Nat.le_add_right _ _
  · have hne : ¬ g = k := fun e => hS (by simp [e])
    unfold Go.Proofs.sortWorldK Go.Sort.putRowK
    rw [Go.Sort.heap_grow_old _ _ (by rw [Go.Sort.size_putRow]; exact hk)]
    unfold Go.Sort.putRow Go.Sort.mapBlock
    rw [Array.getElem?_modify, if_neg hne]
    rfl
theorem sorted_eq {l E : List En} (hp : E.Perm l) (hs : E.Pairwise fun x y => x.num < y.num) {d : Array En} (hp2 : Go.Sort.PermIn 0 l.toArray.size l.toArray d) (hs2 : Go.Sort.SortedIn (ltOf cfE) 0 l.toArray.size d) : d.toList = E := by
  obtain ⟨hz, -, hpm⟩ := hp2
  have e1 : d.extract 0 l.toArray.size = d := by rw [← hz]; exact Array.extract_size
  have e2 : l.toArray.extract 0 l.toArray.size = l.toArray := Array.extract_size
  rw [e1, e2] at hpm
  have hpm : d.toList.Perm l := by simpa using hpm
  have hPE : d.toList.Perm E := hpm.trans hp.symm
  refine List.Perm.eq_of_pairwise (le := fun x y => x.num ≤ y.num) (fun a b ha hb h1 h2 => ?_) ?_ (hs.imp (fun h => by omega)) hPE
  · have ha := hPE.subset ha
    obtain ⟨i, hi, rfl⟩ := List.getElem_of_mem ha
    obtain ⟨j, hj, rfl⟩ := List.getElem_of_mem hb
    rw [List.pairwise_iff_getElem] at hs
    by_cases hij : i = j
    · subst hij; rfl
    · by_cases hlt : i < j
      · have := hs i j hi hj hlt; omega
      · have := hs j i hj hi (by omega); omega
  · rw [List.pairwise_iff_getElem]
    intro i j hi hj hij
    have := hs2 i j (by omega) hij (by rw [← hz]; simpa using hj)
    rw [ltE, getElem!_pos d i (by simpa using hi), getElem!_pos d j (by simpa using hj)] at this
    have := of_decide_eq_false this
    rw [Array.getElem_toList, Array.getElem_toList]
    omega
theorem sort21 (l E : List En) (v : Value) (w : World) (h : w.ownsRow 0 37 4 v l.length (enC l)) (hp : E.Perm l) (hs : E.Pairwise fun x y => x.num < y.num) (hn : l.length ≤ 1048576) :
    Calls Tryz.prog 28 #[v, .func (.func 29) #[] #[]] w fun e w' => e = .returned (.tuple #[]) ∧ Ext v.ownBlock.toList w w' ∧ EnsAt w' v E := by
  by_cases h0 : l.length = 0
  · obtain ⟨ao, cap, rfl⟩ := row_slice h
    have hE : E = [] := List.length_eq_zero_iff.1 (by rw [hp.length_eq]; exact h0)
    subst hE
    rw [h0]
    have hcon := AnyF.slices_SortFunc_none (P := Tryz.prog) (ρ := Tryz.sortEn_ren) { Tryz.sortEn with } ao cap (.func (.func 29) #[] #[]) w
    refine hcon.mono ?_
    rintro e w' ⟨rfl, rfl⟩
    exact ⟨rfl, Ext.refl _ _, ao, cap, rfl, Nat.zero_le _, fun i hi => by simp at hi⟩
  · obtain ⟨g, cap, rfl⟩ := row_form h (by omega)
    have eg : ∀ args w, (callFunc 29 args).run Tryz.prog w = .ok (.enter 29 args) w := enters_of Tryz.func29 (by kernel_rfl) rfl
    have hblk : g < w.heap.size := by
      have := h.lt g (by simp [Value.ownBlock])
      exact this.2
    have hH := holdsE h
    have hcap := row_le h
    have hcon := AnyQ.slices_SortFunc Tryz.sortEn 4 Tryz.isAgg37 Tryz.sizeOf37 encE (fun _ => rfl) encE_one cfE swoE 29 #[] g 0 cap l.toArray w eg (fun m os dk _ x y => read1_walk x y _) hH hblk (by simp; omega)
    refine hcon.mono ?_
    rintro e w' ⟨rfl, d, n, os, hpm, hso, rfl⟩
    have hd := sorted_eq hp hs hpm hso
    have hz : d.size = l.length := by have := hpm.1; simpa using this
    refine ⟨rfl, by simpa [Value.ownBlock] using ext_sorted w g n d os, ?_⟩
    have hH2 := holdsK_sortWorldK_c encE 4 w g 0 l.toArray d n os hH hblk (by rw [hz]; simp)
    have := ens_holds (cap := cap) hH2 (by rw [hz]; exact hcap)
    rw [hd] at this
    rw [show l.length = E.length from hp.length_eq.symm]
    exact this
end Go.Proofs.YtkaimeogebgofaaGreatDoor.Xs
