/-
  huff: counts and State walked.
-/
import Derived.Test.YtchhgbhbldfofaaHuF
import Derived.Laws.Rows
import Derived.Laws.Tables
import Derived.Deep.CutBlock
import Derived.Deep.DeepCutAuto
namespace Go.Proofs.Ytchhgbhbldfofaa.Hu
open Go.RowKit

/-! ### an array of sixteen numbers -/
def arrC (c : Nat → Nat) : Array Value := ((List.range 16).map fun j => iz (c j)).toArray
theorem arrC_at (c : Nat → Nat) (j : Nat) (h : j < 16) : (arrC c)[j]? = some (iz (c j)) := by
  unfold arrC
  simp [List.getElem?_range h]
def up1 (c : Nat → Nat) (x v : Nat) : Nat → Nat := fun j => if j = x then v else c j
theorem arrC_set (c : Nat → Nat) (x v : Nat) : (arrC c).setIfInBounds x (iz v) = arrC (up1 c x v) := by
  unfold arrC
  apply Array.ext'
  simp only [Array.toList_setIfInBounds]
  apply List.ext_getElem?
  intro j
  rw [List.getElem?_set]
  by_cases hj : j < 16
  · by_cases hx : x = j
    · subst hx
      rw [if_pos rfl, if_pos (by simpa using hj), List.getElem?_map, List.getElem?_range hj]
      simp [up1]
    · rw [if_neg hx, List.getElem?_map, List.getElem?_map, List.getElem?_range hj]
      simp [up1, show ¬ j = x from fun h => hx h.symm]
  · have h1 : ((List.range 16).map fun k => iz (c k))[j]? = none := by rw [List.getElem?_eq_none]; simp; omega
    have h2 : ((List.range 16).map fun k => iz (up1 c x v k))[j]? = none := by rw [List.getElem?_eq_none]; simp; omega
    show (if x = j then _ else ((List.range 16).map fun k => iz (c k))[j]?) = ((List.range 16).map fun k => iz (up1 c x v k))[j]?
    rw [h1, h2]
    split
    · rw [if_neg (by simp; omega)]
    · rfl
theorem arrC_congr {c d : Nat → Nat} (h : ∀ j, j < 16 → c j = d j) : arrC c = arrC d := by
  unfold arrC
  congr 1
  refine List.map_congr_left (fun j hj => ?_)
  rw [h j (List.mem_range.1 hj)]
/-- how often a number stands in a list -/
def cntI (l : List Int) (j : Nat) : Nat := l.countP fun x => decide (x = (j : Int))
def cntF (l : List Int) : Nat → Nat := fun j => if j = 0 then 0 else cntI l j
def badL (l : List Int) : Bool := decide (288 < l.length) || l.any fun x => decide (x < 0 ∨ 15 < x)
theorem cntI_snoc (l : List Int) (x : Int) (j : Nat) : cntI (l ++ [x]) j = cntI l j + if x = (j : Int) then 1 else 0 := by
  unfold cntI
  rw [List.countP_append, List.countP_singleton]
  by_cases h : x = (j : Int) <;> simp [h]
theorem cntI_le (l : List Int) (j : Nat) : cntI l j ≤ l.length := List.countP_le_length
theorem info16 : (Try.prog.info? 68).map (·.size) = some 16 := by kernel_rfl
theorem arrC_size (c : Nat → Nat) : (arrC c).size = 16 := by simp [arrC]
theorem info16c (c : Nat → Nat) : (Try.prog.info? 68).map (·.size) = some (arrC c).size := by rw [arrC_size]; exact info16
theorem arrC_one (c : Nat → Nat) : (arrC c).all (·.oneCell') = true := by
  rw [Array.all_eq_true_iff_forall_mem]
  intro x hx
  unfold arrC at hx
  simp at hx
  obtain ⟨j, _, rfl⟩ := hx
  rfl
theorem results_arr {fn : Func} {p q : Tmp} (h : fn.results = #[.cell p 68, .tmp q]) (tmps : Array Value) (w : World) (g : Nat) (c : Nat → Nat) (v : Value) (hp : tmps.getD p undef = .pointer (some ⟨g, 0, none⟩)) (hq : tmps.getD q undef = v) (hg : w.heap[g]? = some (.cells (arrC c) 68 (0, 0))) :
    (results fn tmps).run Try.prog w = .ok (.tuple #[.agg (arrC c), v]) w := by
  have hp' : tmps[p]?.getD undef = .pointer (some ⟨g, 0, none⟩) := by simpa using hp
  have hq' : tmps[q]?.getD undef = v := by simpa using hq
  simp [results, h, hp', hq', asAddr, run_loadVar_row w g 68 68 (arrC c) (0, 0) _ hg Try.underlying68 rfl (info16c c)]
theorem setRow_heap9 {w : World} {g : Nat} {cs ds : Array Value} {t : TypeId} (h : w.heap[g]? = some (.cells cs t (0, 0))) : (w.setRow g ds).heap[g]? = some (.cells ds t (0, 0)) := setRow_heap w g cs ds t _ h
theorem ext_setRow {S : List Nat} {a w : World} (h : Ext S a w) (g : Nat) (cs : Array Value) (hp : g ∈ S ∨ a.heap.size ≤ g) : Ext S a (w.setRow g cs) :=
  h.trans' (T := [g]) ⟨rfl, rfl, rfl, by simp [World.setRow], fun k _ hk => setRow_other w g k _ (by simpa using hk)⟩ (fun i hi hS => by simp at hS; subst hS; rcases hp with hp | hp; exact hp; omega)
theorem ints_take (l : List Int) (k : Nat) (x : Int) (h : l[k]? = some x) : l.take (k + 1) = l.take k ++ [x] := by
  rw [List.take_add_one, h]; rfl
def RetArr (w : World) (e : Ending) (w' : World) : Prop := ∃ c, e = .returned (.tuple #[.agg (arrC c), .bool false]) ∧ Ext [] w w'
theorem bad_false {l : List Int} (hb : badL l = false) : l.length ≤ 288 ∧ ∀ x ∈ l, 0 ≤ x ∧ x ≤ 15 := by
  unfold badL at hb
  rw [Bool.or_eq_false_iff, List.any_eq_false] at hb
  refine ⟨by have := of_decide_eq_false hb.1; omega, fun x hx => ?_⟩
  have h := hb.2 x hx
  simp at h
  omega
set_option maxRecDepth 100000 in
set_option maxHeartbeats 8000000 in
theorem counts_good (v : Value) (l : List Int) (w : World) (hv : IntsAt w v l) (hb : badL l = false) :
    Calls Try.prog 36 #[v] w fun e w' => e = .returned (.tuple #[.agg (arrC (cntF l)), .bool true]) ∧ Ext [] w w' := by
  obtain ⟨hl, hx⟩ := bad_false hb
  obtain ⟨ao, cap, rfl, hc⟩ := hv
  have HC := Lib.hid hc
  have HXX := Lib.hid hx
  have hl' : ¬ 288 < l.length := by omega
  obtain ⟨R, hR⟩ : ∃ R, arrC (cntF l) = R := ⟨_, rfl⟩
  rw [hR]
  have HR := Lib.hid hR
  clear hc hx hb hR
  go_enter Try.func36, Try.ntmps36
  go_wp2_with fail
  obtain ⟨nb, hnb⟩ : ∃ nb, w.heap.size = nb := ⟨_, rfl⟩
  have HNB := Lib.hid hnb
  rw [hnb]
  clear hnb
  go_loopg [12] l.length (fun g iv wr => ∃ (k : Nat) (c : Nat → Nat), g + k = l.length ∧ iv = .int .i64 k ∧ Ext [] w wr ∧ wr.heap[nb]? = some (.cells (arrC c) 68 (0, 0)) ∧ ∀ j, j < 16 → c j = cntI (l.take k) j)
  case atStart => exact ⟨0, fun _ => 0, by omega, rfl, (Ext.refl _ _).alloc _, by rw [← HNB.out]; exact heap_alloc_at _, fun j _ => by simp [cntI]⟩
  case round =>
    obtain ⟨k, c, hk, rfl, hx, hbk, hcc⟩ := hrel
    by_cases hlt : k < l.length
    · obtain ⟨b, off, rfl, hcell⟩ := HC.out (by omega)
      obtain ⟨x, hck⟩ : ∃ x, l[k]? = some x := ⟨_, List.getElem?_eq_getElem hlt⟩
      have d0 := Ext.cell hx (hcell k x hck)
      have hxr := HXX.out x (List.mem_of_getElem? hck)
      obtain ⟨m, rfl⟩ : ∃ m : Nat, x = m := ⟨x.toNat, by omega⟩
      have hm : m < 16 := by omega
      have hm' : (m : Int) < 16 := by omega
      have hm15 : ¬ (15 : Int) < (m : Int) := by omega
      have n0 : wr.cell? ⟨nb, m, none⟩ = some (iz (c m)) := (cellOf hbk m).trans (arrC_at c m hm)
      have n1 := freeOf hbk m
      have hcm : c m ≤ 288 := by rw [hcc m hm]; have := cntI_le (l.take k) m; have := List.length_take_le k l; omega
      have hst := heap_setCell_same hbk (i := m) (iz ((c m + 1 : Nat) : Int))
      rw [arrC_set] at hst
      have hx2 : Ext [] w (wr.setCell ⟨nb, m, none⟩ (iz ((c m + 1 : Nat) : Int))) := hx.setCell _ _ (.inr (by show w.heap.size ≤ nb; rw [HNB.out]; exact Nat.le_refl _))
      have hnew : ∀ j, j < 16 → up1 c m (c m + 1) j = cntI (l.take (k + 1)) j := fun j hj => by
        rw [ints_take l k m hck, cntI_snoc, ← hcc j hj]
        unfold up1
        by_cases h : j = m
        · subst h; rw [if_pos rfl, if_pos rfl]
        · rw [if_neg h, if_neg (by omega)]; rfl
      rw [show ((c m + 1 : Nat) : Int) = (c m : Int) + 1 from by omega] at hst hx2
      have HF := Lib.hid (⟨hx2, hst, hnew⟩ : _ ∧ _ ∧ _)
      generalize c m = cm at n0 hcm HF
      clear hst hx2 hnew hcc hcell hck hx hbk hxr
      go_wp2_with fail
      go_roundg (l.length - (k + 1))
      case measure => omega
      case rel => exact ⟨k + 1, up1 c m (cm + 1), by omega, by go_num, HF.out.1, HF.out.2.1, HF.out.2.2⟩
    · obtain rfl : k = l.length := by omega
      have n1 := freeOf hbk 0
      have n0 : wr.cell? ⟨nb, 0, none⟩ = some (iz (c 0)) := (cellOf hbk 0).trans (arrC_at c 0 (by omega))
      have hst := heap_setCell_same hbk (i := 0) (iz ((0 : Nat) : Int))
      rw [arrC_set] at hst
      have hx2 : Ext [] w (wr.setCell ⟨nb, 0, none⟩ (iz ((0 : Nat) : Int))) := hx.setCell _ _ (.inr (by show w.heap.size ≤ nb; rw [HNB.out]; exact Nat.le_refl _))
      have hRc : arrC (up1 c 0 0) = R := by
        rw [← HR.out]
        refine arrC_congr (fun j hj => ?_)
        unfold up1 cntF
        by_cases h : j = 0
        · rw [if_pos h, if_pos h]
        · rw [if_neg h, if_neg h, hcc j hj, List.take_length]
      obtain ⟨W, hW⟩ : ∃ W, wr.setCell ⟨nb, 0, none⟩ (iz 0) = W := ⟨_, rfl⟩
      change (wr.setCell ⟨nb, 0, none⟩ (iz 0)).heap[nb]? = _ at hst
      change Ext [] w (wr.setCell ⟨nb, 0, none⟩ (iz 0)) at hx2
      have HF := Lib.hid (⟨hst, hx2, hRc⟩ : _ ∧ _ ∧ _)
      clear hst hx2 hRc hcc hx hbk
      go_upto_region 11 with (fail)
      have HF := Lib.hid (⟨by have := HF.out.1; rw [hW] at this; exact this, by have := HF.out.2.1; rw [hW] at this; exact this, HF.out.2.2⟩ : W.heap[nb]? = some (.cells (arrC (up1 c 0 0)) 68 (0, 0)) ∧ Ext [] w W ∧ arrC (up1 c 0 0) = R)
      clear hW n0 n1
      generalize up1 c 0 0 = d at *
      have hg := HF.out.1
      go_wp2_with (first | (refine wpList_load_row rfl 68 _ rfl nb rfl 68 _ (0, 0) _ hg Try.underlying68 rfl (info16c d) ?_) | (refine wpList_store_row rfl 68 _ _ rfl nb _ rfl rfl 68 _ hg (info16c d) rfl (arrC_one d) ?_))
      have hx3 := ext_setRow HF.out.2.1 nb (arrC d) (.inr (by rw [HNB.out]; exact Nat.le_refl _))
      exact bodyPost_ret (results_arr rfl _ _ nb d (.bool true) rfl rfl (setRow_heap9 hg)) rfl ⟨by rw [HF.out.2.2], hx3⟩
set_option maxRecDepth 100000 in
set_option maxHeartbeats 8000000 in
theorem counts_bad (v : Value) (l : List Int) (w : World) (hv : IntsAt w v l) (hl : l.length ≤ 1048576) (hb : badL l = true) :
    Calls Try.prog 36 #[v] w (RetArr w) := by
  obtain ⟨ao, cap, rfl, hc⟩ := hv
  have HC := Lib.hid hc
  clear hc
  obtain ⟨nb, hnb⟩ : ∃ nb, w.heap.size = nb := ⟨_, rfl⟩
  have HNB := Lib.hid hnb
  by_cases h2 : 288 < l.length
  · have hl' : (288 : Int) < (l.length : Int) := by omega
    go_enter Try.func36, Try.ntmps36
    go_wp2_with fail
    exact bodyPost_ret (results_arr rfl _ _ nb (fun _ => 0) (.bool false) rfl rfl (by rw [← HNB.out]; exact heap_alloc_at _)) rfl ⟨_, rfl, (Ext.refl _ w).alloc _⟩
  · have hl' : ¬ (288 : Int) < (l.length : Int) := by omega
    have ha : (l.any fun x => decide (x < 0 ∨ 15 < x)) = true := by
      unfold badL at hb
      rw [decide_eq_false h2] at hb
      simpa using hb
    have HA := Lib.hid ha
    clear ha hb
    go_enter Try.func36, Try.ntmps36
    go_wp2_with fail
    clear hnb
    go_loopg [12] l.length (fun g iv wr => ∃ (k : Nat) (c : Nat → Nat), g + k = l.length ∧ iv = .int .i64 k ∧ Ext [] w wr ∧ wr.heap[nb]? = some (.cells (arrC c) 68 (0, 0)) ∧ (∀ j, j < 16 → c j ≤ k) ∧ ((l.drop k).any fun x => decide (x < 0 ∨ 15 < x)) = true)
    case atStart => exact ⟨0, fun _ => 0, by omega, rfl, (Ext.refl _ _).alloc _, by rw [← HNB.out]; exact heap_alloc_at _, fun j _ => Nat.zero_le _, HA.out⟩
    case round =>
      clear HA
      obtain ⟨k, c, hk, rfl, hx, hbk, hcc, ha⟩ := hrel
      by_cases hlt : k < l.length
      · obtain ⟨b, off, rfl, hcell⟩ := HC.out (by omega)
        obtain ⟨x, hck⟩ : ∃ x, l[k]? = some x := ⟨_, List.getElem?_eq_getElem hlt⟩
        have d0 := Ext.cell hx (hcell k x hck)
        have hdr : l.drop k = x :: l.drop (k + 1) := by
          obtain ⟨h1, h2⟩ := List.getElem?_eq_some_iff.1 hck
          rw [List.drop_eq_getElem_cons h1, h2]
        rw [hdr, List.any_cons] at ha
        clear hcell hck hdr
        by_cases hx0 : x < 0 ∨ 15 < x
        · have HX := Lib.hid (⟨hbk, hx⟩ : _ ∧ _)
          clear ha hx hcc hbk
          rcases hx0 with h | h
          · have hg := HX.out.1
            go_wp2_with (first | (refine wpList_load_row rfl 68 _ rfl nb rfl 68 _ (0, 0) _ hg Try.underlying68 rfl (info16c c) ?_) | (refine wpList_store_row rfl 68 _ _ rfl nb _ rfl rfl 68 _ hg (info16c c) rfl (arrC_one c) ?_))
            exact bodyPost_ret (results_arr rfl _ _ nb c (.bool false) rfl rfl (setRow_heap9 hg)) rfl ⟨c, rfl, ext_setRow HX.out.2 nb (arrC c) (.inr (by rw [HNB.out]; exact Nat.le_refl _))⟩
          · have h' : ¬ x < 0 := by omega
            have hg := HX.out.1
            go_wp2_with (first | (refine wpList_load_row rfl 68 _ rfl nb rfl 68 _ (0, 0) _ hg Try.underlying68 rfl (info16c c) ?_) | (refine wpList_store_row rfl 68 _ _ rfl nb _ rfl rfl 68 _ hg (info16c c) rfl (arrC_one c) ?_))
            exact bodyPost_ret (results_arr rfl _ _ nb c (.bool false) rfl rfl (setRow_heap9 hg)) rfl ⟨c, rfl, ext_setRow HX.out.2 nb (arrC c) (.inr (by rw [HNB.out]; exact Nat.le_refl _))⟩
        · rw [decide_eq_false hx0, Bool.false_or] at ha
          obtain ⟨m, rfl⟩ : ∃ m : Nat, x = m := ⟨x.toNat, by omega⟩
          have hm : m < 16 := by omega
          have hm' : (m : Int) < 16 := by omega
          have hm15 : ¬ (15 : Int) < (m : Int) := by omega
          have n0 : wr.cell? ⟨nb, m, none⟩ = some (iz (c m)) := (cellOf hbk m).trans (arrC_at c m hm)
          have n1 := freeOf hbk m
          have hcm : c m ≤ 288 := by have := hcc m hm; omega
          have hst := heap_setCell_same hbk (i := m) (iz ((c m + 1 : Nat) : Int))
          rw [arrC_set] at hst
          have hx2 : Ext [] w (wr.setCell ⟨nb, m, none⟩ (iz ((c m + 1 : Nat) : Int))) := hx.setCell _ _ (.inr (by show w.heap.size ≤ nb; rw [HNB.out]; exact Nat.le_refl _))
          have hnew : ∀ j, j < 16 → up1 c m (c m + 1) j ≤ k + 1 := fun j hj => by
            have := hcc j hj
            unfold up1
            split
            · rename_i h; subst h; omega
            · omega
          rw [show ((c m + 1 : Nat) : Int) = (c m : Int) + 1 from by omega] at hst hx2
          have HF := Lib.hid (⟨hx2, hst, hnew, ha⟩ : _ ∧ _ ∧ _ ∧ _)
          generalize c m = cm at n0 hcm HF
          clear hst hx2 hnew hcc hx hbk hx0 ha
          go_wp2_with fail
          go_roundg (l.length - (k + 1))
          case measure => omega
          case rel => exact ⟨k + 1, up1 c m (cm + 1), by omega, by go_num, HF.out.1, HF.out.2.1, HF.out.2.2.1, HF.out.2.2.2⟩
      · obtain rfl : k = l.length := by omega
        rw [List.drop_length] at ha
        cases ha
end Go.Proofs.Ytchhgbhbldfofaa.Hu
