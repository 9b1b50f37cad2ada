/-
  huff.Codes walked.
-/
import Derived.Test.YtchhgbhbldfofaaHuH
namespace Go.Proofs.Ytchhgbhbldfofaa.Hu
open Go.RowKit

/-! ### plain -/
def nxN (c : Nat → Nat) : Nat → Nat
  | 0 => 0
  | k + 1 => 2 * (nxN c k + c k)
theorem nxN_kra (c : Nat → Nat) : ∀ k, k ≤ 15 → nxN c k * 2 ^ (15 - k) = kraF c k
  | 0, _ => by simp [nxN, kraF]
  | k + 1, h => by
    have ih := nxN_kra c k (by omega)
    have e : 2 ^ (15 - k) = 2 * 2 ^ (15 - (k + 1)) := by rw [show 15 - k = (15 - (k + 1)) + 1 by omega, Nat.pow_succ, Nat.mul_comm]
    rw [nxN, kraF, ← ih, e]
    rw [Nat.mul_comm 2 (nxN c k + c k), Nat.mul_assoc, Nat.add_mul]
theorem kraF_mono (c : Nat → Nat) {a b : Nat} (h : a ≤ b) : kraF c a ≤ kraF c b := by
  induction h with
  | refl => exact Nat.le_refl _
  | step _ ih => exact Nat.le_trans ih (Nat.le_add_right _ _)
theorem nxN_le (c : Nat → Nat) (hk : kraF c 16 ≤ 32768) (k : Nat) (h : k ≤ 15) : nxN c k + c k ≤ 2 ^ k := by
  have h1 := nxN_kra c k h
  have h2 := kraF_mono c (show k + 1 ≤ 16 by omega)
  rw [kraF, ← h1, ← Nat.add_mul] at h2
  have h3 : 2 ^ k * 2 ^ (15 - k) = 32768 := by rw [← Nat.pow_add, show k + (15 - k) = 15 by omega]
  have h4 : (nxN c k + c k) * 2 ^ (15 - k) ≤ 2 ^ k * 2 ^ (15 - k) := by omega
  exact Nat.le_of_mul_le_mul_right h4 (Nat.pow_pos (by omega))
def codesF : List Int → (Nat → Nat) → List Nat
  | [], _ => []
  | x :: l, nx => if 0 < x then nx x.toNat :: codesF l (up1 nx x.toNat (nx x.toNat + 1)) else 0 :: codesF l nx
def codesN (l : List Int) : List Nat := codesF l (nxN (cntF l))
theorem codesF_len : ∀ (l : List Int) (nx : Nat → Nat), (codesF l nx).length = l.length
  | [], _ => rfl
  | x :: l, nx => by
    rw [codesF]
    split <;> rw [List.length_cons, codesF_len l, List.length_cons]
def codesE (l : List Int) : Int := if badL l then 2 else if 32768 < kra l then 4 else 0
/-! ### an array of seventeen numbers -/
abbrev u32v (n : Nat) : Value := .int .u32 (n : Int)
def arrU (c : Nat → Nat) : Array Value := ((List.range 17).map fun j => u32v (c j)).toArray
theorem arrU_at (c : Nat → Nat) (j : Nat) (h : j < 17) : (arrU c)[j]? = some (u32v (c j)) := by
  unfold arrU
  simp [List.getElem?_range h]
theorem arrU_set (c : Nat → Nat) (x v : Nat) : (arrU c).setIfInBounds x (u32v v) = arrU (up1 c x v) := by
  unfold arrU
  apply Array.ext'
  simp only [Array.toList_setIfInBounds]
  apply List.ext_getElem?
  intro j
  rw [List.getElem?_set]
  by_cases hj : j < 17
  · by_cases hx : x = j
    · subst hx
      rw [if_pos rfl, if_pos (by simpa using hj), List.getElem?_map, List.getElem?_range hj]
      simp [up1]
    · rw [if_neg hx, List.getElem?_map, List.getElem?_map, List.getElem?_range hj]
      simp [up1, show ¬ j = x from fun h => hx h.symm]
  · have h1 : ((List.range 17).map fun k => u32v (c k))[j]? = none := by rw [List.getElem?_eq_none]; simp; omega
    have h2 : ((List.range 17).map fun k => u32v (up1 c x v k))[j]? = none := by rw [List.getElem?_eq_none]; simp; omega
    show (if x = j then _ else ((List.range 17).map fun k => u32v (c k))[j]?) = ((List.range 17).map fun k => u32v (up1 c x v k))[j]?
    rw [h1, h2]
    split
    · rw [if_neg (by simp; omega)]
    · rfl
theorem arrU_congr {c d : Nat → Nat} (h : ∀ j, j < 17 → c j = d j) : arrU c = arrU d := by
  unfold arrU
  congr 1
  refine List.map_congr_left (fun j hj => ?_)
  rw [h j (List.mem_range.1 hj)]
theorem infoU32 : (Try.prog.info? 34).map (fun i => (i.zero, i.size, i.bytes)) = some (some (.int .u32 0), 1, 4) := by kernel_rfl
set_option maxRecDepth 100000 in
set_option maxHeartbeats 8000000 in
theorem codes_ok (v : Value) (l : List Int) (w : World) (hv : IntsAt w v l) (hl : l.length ≤ 1048576) (hb : badL l = false) (hk : kra l ≤ 32768) :
    Calls Try.prog 13 #[v] w fun e w' => ∃ v', e = .returned (.tuple #[v', .int .i64 0]) ∧ Ext [] w w' ∧ (oSl 34 1 v' l.length ((codesN l).map u32v)).P w' ∧ ∀ k ∈ v'.ownBlock.toList, w.heap.size ≤ k := by
  have hst := state_walk v l w hv hl
  have e : stateN l = (cmpZ (kra l) 32768, 0) := by unfold stateN; rw [hb]; rfl
  rw [e] at hst
  simp only at hst
  have hcz : cmpZ (kra l) 32768 ≤ 0 := by
    rcases cmpZ_cases (kra l) 32768 with ⟨_, h⟩ | ⟨h, _⟩ | ⟨_, h⟩ <;> omega
  obtain ⟨cz, hczz⟩ : ∃ cz, cmpZ (kra l) 32768 = cz := ⟨_, rfl⟩
  rw [hczz] at hst hcz
  have hcc := fun w h => counts_good v l w h hb
  have hcl := cntF_le l
  obtain ⟨R, hR⟩ : ∃ R, codesN l = R := ⟨_, rfl⟩
  rw [hR]
  unfold codesN at hR
  have hl2 := (bad_false hb).1
  have hrg := (bad_false hb).2
  have hnx := nxN_le (cntF l) hk
  have hc0 : cntF l 0 = 0 := rfl
  generalize cntF l = c at *
  obtain ⟨j0, hjf, hy0, hy1, hy2⟩ := info_parts infoU32
  have HST := Lib.hid hst
  have HV := Lib.hid hv
  have HCC := Lib.hid hcc
  have HR := Lib.hid hR
  have HH := Lib.hid (⟨hcl, hrg, hnx, hc0⟩ : _ ∧ _ ∧ _ ∧ _)
  obtain ⟨ao, cap, rfl, hc⟩ := hv
  have HC := Lib.hid hc
  clear hst hcc hR hcl hrg hnx hc0 hb hk e hczz hc
  go_enter Try.func13, Try.ntmps13
  go_wp2_with fail
  refine HST.out.mono ?_
  clear HST
  rintro e w1 ⟨rfl, hx1⟩
  have HX := Lib.hid hx1
  clear hx1
  go_wp2_with fail
  refine (HCC.out _ (HV.out.ext HX.out)).mono ?_
  clear HCC
  rintro e w2 ⟨rfl, hx2⟩
  have HX := Lib.hid (HX.out.trans hx2)
  have hg := Lib.hid (zeros16_at w2)
  clear hx2
  go_wp2_with (first | (refine wpList_store_row rfl 68 _ _ rfl w2.heap.size (arrC c) rfl rfl 68 _ hg.out (info16c c) (by rw [arrC_size]; rfl) (arrC_one c) ?_))
  have hx3 : Ext [] w2 ((w2.alloc (.cells #[.int .i64 0, .int .i64 0, .int .i64 0, .int .i64 0, .int .i64 0, .int .i64 0, .int .i64 0, .int .i64 0, .int .i64 0, .int .i64 0, .int .i64 0, .int .i64 0, .int .i64 0, .int .i64 0, .int .i64 0, .int .i64 0] 68)).setRow w2.heap.size (arrC c)) := ext_setRow ((Ext.refl _ w2).alloc _) w2.heap.size (arrC c) (.inr (Nat.le_refl _))
  have S := ((Sep.start w).quiet HX.out).new hx3 (Ob.one w2.heap.size (.cells (arrC c) 68 (0, 0))) (setRow_heap9 hg.out) (fun q hq => by rw [List.mem_singleton.1 hq]; exact Nat.le_refl _)
  have hsz3 : ((w2.alloc (.cells #[.int .i64 0, .int .i64 0, .int .i64 0, .int .i64 0, .int .i64 0, .int .i64 0, .int .i64 0, .int .i64 0, .int .i64 0, .int .i64 0, .int .i64 0, .int .i64 0, .int .i64 0, .int .i64 0, .int .i64 0, .int .i64 0] 68)).setRow w2.heap.size (arrC c)).heap.size = w2.heap.size + 1 := by simp [World.setRow]
  obtain ⟨W3, hW3⟩ : ∃ W3, (w2.alloc (.cells #[.int .i64 0, .int .i64 0, .int .i64 0, .int .i64 0, .int .i64 0, .int .i64 0, .int .i64 0, .int .i64 0, .int .i64 0, .int .i64 0, .int .i64 0, .int .i64 0, .int .i64 0, .int .i64 0, .int .i64 0, .int .i64 0] 68)).setRow w2.heap.size (arrC c) = W3 := ⟨_, rfl⟩
  obtain ⟨cb, hcb⟩ : ∃ cb, w2.heap.size = cb := ⟨_, rfl⟩
  rw [hW3, hcb] at hsz3
  rw [hW3, hcb] at S
  rw [hW3, hcb]
  have S := S.new ((Ext.refl _ W3).alloc (.cells (arrU fun j => if j ≤ 1 then nxN c j else 0) 72)) (Ob.one (cb + 1) (.cells (arrU fun j => if j ≤ 1 then nxN c j else 0) 72 (0, 0))) (by rw [← hsz3]; exact heap_alloc_at _) (fun q hq => by rw [List.mem_singleton.1 hq, hsz3]; exact Nat.le_refl _)
  have hz0 : (arrU fun j => if j ≤ 1 then nxN c j else 0) = arrU (fun _ => 0) := arrU_congr (fun j _ => by
    have := HH.out.2.2.2
    match j with
    | 0 => rfl
    | 1 => simp [nxN, this]
    | j + 2 => rw [if_neg (by omega)])
  rw [show (arrU fun _ => 0) = #[.int .u32 0, .int .u32 0, .int .u32 0, .int .u32 0, .int .u32 0, .int .u32 0, .int .u32 0, .int .u32 0, .int .u32 0, .int .u32 0, .int .u32 0, .int .u32 0, .int .u32 0, .int .u32 0, .int .u32 0, .int .u32 0, .int .u32 0] from rfl] at hz0
  have HZ0 := Lib.hid hz0
  have HS := Lib.hid S
  clear hx3 hsz3 hW3 hcb S hz0 hg HX
  go_loopg [9] 15 (fun g iv wr => ∃ k : Nat, g + k = 16 ∧ 1 ≤ k ∧ iv = .int .i64 k ∧ Sep w wr [Ob.one (cb + 1) (.cells (arrU fun j => if j ≤ k then nxN c j else 0) 72 (0, 0)), Ob.one cb (.cells (arrC c) 68 (0, 0))])
  case atStart => exact ⟨1, by omega, by omega, rfl, by have h := HS.out; rw [HZ0.out] at h ⊢; exact h⟩
  case round =>
    clear HS HZ0
    obtain ⟨k, hk, hk1, rfl, S⟩ := hrel
    by_cases hlt : k ≤ 15
    · have hU := S.get 0 rfl
      have hC := S.get 1 rfl
      have hle := HH.out.2.2.1 k hlt
      have hp : 2 ^ k ≤ 2 ^ 15 := Nat.pow_le_pow_right (by omega) hlt
      have u0 : ∀ z : Ex wr, z.w.cell? ⟨cb + 1, k, none⟩ = some (u32v (nxN c k)) := fun z => by
        have h := (cellOf (z.heap hU) k).trans (arrU_at _ k (by omega))
        rw [h, if_pos (Nat.le_refl k)]
      have n0 : ∀ z : Ex wr, z.w.cell? ⟨cb, k, none⟩ = some (iz (c k)) := fun z => (cellOf (z.heap hC) k).trans (arrC_at c k (by omega))
      have hsucc : nxN c (k + 1) = 2 * (nxN c k + c k) := rfl
      have HSU := Lib.hid hsucc
      have HS := Lib.hid S
      obtain ⟨a, ha⟩ : ∃ a, nxN c k = a := ⟨_, rfl⟩
      obtain ⟨b, hb⟩ : ∃ b, c k = b := ⟨_, rfl⟩
      rw [ha] at u0
      rw [hb] at n0
      rw [ha, hb] at hle HSU
      have hab : a + b ≤ 32768 := by omega
      have hk16 : (k : Int) < 16 := by omega
      clear ha hb hsucc hU hC S hp hle
      go_wp2_with fail
      refine wp_region_quiet_tail (C := fun w' => ∃ x : Ex wr, w' = x.w) 12 (by kernel_rfl) (by kernel_rfl) ⟨Ex.mk _ ((Ext.refl [] wr).drew), rfl⟩ ?_
      simp only [List.take_succ_cons, List.take_zero, List.drop_succ_cons, List.drop_zero]
      repeat (go_big_quiet_step (fail))
      refine wpQuiet_nil ?_
      clear u0 n0
      rintro _ ⟨z, rfl⟩
      obtain ⟨W, hW⟩ : ∃ W, z.w = W := ⟨_, rfl⟩
      have S := HS.out.quiet z.ext
      rw [hW] at S
      rw [hW]
      clear hW
      have hU := S.get 0 rfl
      have c1 : W.cell? ⟨cb + 1, k + 1, none⟩ = some (u32v (if k + 1 ≤ k then nxN c (k + 1) else 0)) := (cellOf hU (k + 1)).trans (arrU_at _ (k + 1) (by omega))
      have f1 := freeOf hU (k + 1)
      have hst := heap_setCell_same hU (i := k + 1) (u32v (nxN c (k + 1)))
      rw [arrU_set, arrU_congr (d := fun j => if j ≤ k + 1 then nxN c j else 0) (fun j hj => by
        unfold up1
        by_cases h : j = k + 1
        · rw [if_pos h, if_pos (by omega), h]
        · rw [if_neg h]
          show (if j ≤ k then nxN c j else 0) = _
          by_cases h2 : j ≤ k
          · rw [if_pos h2, if_pos (by omega)]
          · rw [if_neg h2, if_neg (by omega)])] at hst
      have S2 := S.upd 0 (Ob.one (cb + 1) (.cells (arrU fun j => if j ≤ k + 1 then nxN c j else 0) 72 (0, 0))) rfl ((Ext.refl [cb + 1] W).setCell ⟨cb + 1, k + 1, none⟩ (u32v (nxN c (k + 1))) (.inl (by simp))) (Fr.refl _ _) hst
      rw [HSU.out, show u32v (2 * (a + b)) = .int .u32 (((a : Int) + (b : Int)) * 2) from by rw [show ((a : Int) + (b : Int)) * 2 = ((2 * (a + b) : Nat) : Int) from by omega]] at S2
      rw [if_neg (by omega)] at c1
      have HS := Lib.hid S2
      clear S S2 hU hst HSU
      go_wp2_with fail
      go_roundg (16 - (k + 1))
      case measure => omega
      case rel => exact ⟨k + 1, by omega, by omega, by go_num, HS.out⟩
    · obtain rfl : k = 16 := by omega
      have hcg : (arrU fun j => if j ≤ 16 then nxN c j else 0) = arrU (nxN c) := arrU_congr (fun j hj => by rw [if_pos (by omega)])
      rw [hcg] at S
      have hbd : ∀ j, j < 17 → nxN c j ≤ 65536 + 0 := fun j hj => by
        by_cases h : j ≤ 15
        · have h1 := HH.out.2.2.1 j h
          have h2 : 2 ^ j ≤ 2 ^ 15 := Nat.pow_le_pow_right (by omega) h
          omega
        · obtain rfl : j = 16 := by omega
          have h1 := HH.out.2.2.1 15 (by omega)
          have h2 : nxN c 16 = 2 * (nxN c 15 + c 15) := rfl
          omega
      obtain ⟨w4, hmk, hown, hgrow⟩ := run_make_full (P := Try.prog) wr 0 27 34 j0 (.int .u32 0) 1 Try.underlying27 hjf hy0 hy1 .i64 .i64 l.length (by rw [hy2]; omega) (by unfold maxLen; omega) (by omega)
      have hx4 : Ext [] wr w4 := (Ext.refl [] wr).grown hgrow (fun k hk => by cases hk)
      have S := S.new hx4 (oSl 34 1 (.slice (some ⟨wr.heap.size, 0, none⟩) l.length l.length) l.length ((([] : List Nat) ++ List.replicate (l.length - 0) 0).map u32v)) (by
        have hm : (madeCells (Value.int .u32 0).cells (l.length * 1)).toList = (([] : List Nat) ++ List.replicate (l.length - 0) 0).map u32v := by
          rw [List.nil_append, List.map_replicate, Nat.mul_one, Nat.sub_zero]
          exact toList_madeCells_one _ _
        rw [← hm]; exact hown) (fun q hq => by simp [oSl, Value.ownBlock] at hq; omega)
      have HR2 := Lib.hid (show ([] : List Nat) ++ codesF (l.drop 0) (nxN c) = R from by rw [List.drop_zero, List.nil_append]; exact HR.out)
      have HBD := Lib.hid hbd
      have HRG := Lib.hid HH.out.2.1
      generalize nxN c = nx at *
      have HS := Lib.hid S
      obtain ⟨q, hq⟩ : ∃ q, wr.heap.size = q := ⟨_, rfl⟩
      rw [hq] at hmk HS
      clear hx4 hown hgrow S hcg hbd HR HH hq
      go_wp2_with fail
      clear hmk
      go_loopg [51] l.length (fun g iv wr2 => ∃ (k : Nat) (P : List Nat) (nx : Nat → Nat), g + k = l.length ∧ iv = .int .i64 k ∧ P.length = k ∧ P ++ codesF (l.drop k) nx = R ∧ (∀ j, j < 17 → nx j ≤ 65536 + k) ∧ Sep w wr2 [oSl 34 1 (.slice (some ⟨q, 0, none⟩) l.length l.length) l.length ((P ++ List.replicate (l.length - k) 0).map u32v), Ob.one (cb + 1) (.cells (arrU nx) 72 (0, 0)), Ob.one cb (.cells (arrC c) 68 (0, 0))])
      case atStart => exact ⟨0, [], nx, by omega, rfl, rfl, HR2.out, HBD.out, HS.out⟩
      case round =>
        clear HS HR2 HBD
        obtain ⟨k, P, nx, hk, rfl, hP, hR, hbd, S⟩ := hrel
        by_cases hlt : k < l.length
        · obtain ⟨b, off, rfl, hcell⟩ := HC.out (by omega)
          obtain ⟨x, hck⟩ : ∃ x, l[k]? = some x := ⟨_, List.getElem?_eq_getElem hlt⟩
          have d0 := Ext.cell S.ext (hcell k x hck)
          have hxr := HRG.out x (List.mem_of_getElem? hck)
          obtain ⟨m, rfl⟩ : ∃ m : Nat, x = m := ⟨x.toNat, by omega⟩
          have hdr : l.drop k = (m : Int) :: l.drop (k + 1) := by
            obtain ⟨h1, h2⟩ := List.getElem?_eq_some_iff.1 hck
            rw [List.drop_eq_getElem_cons h1, h2]
          rw [hdr, codesF, Int.toNat_natCast] at hR
          obtain ⟨r, hr⟩ : ∃ r, l.length - k = r + 1 := ⟨l.length - k - 1, by omega⟩
          have hr2 : l.length - (k + 1) = r := by omega
          rw [hr] at S
          clear hdr hcell hck
          by_cases h0 : 0 < m
          · rw [if_pos (by omega)] at hR
            have hrow : wr.ownsRow 0 34 1 (.slice (some ⟨q, 0, none⟩) l.length l.length) l.length ((P ++ List.replicate (r + 1) 0).map u32v) := S.get 0 rfl
            have hU := S.get 1 rfl
            have hnm := hbd m (by omega)
            have n0 : wr.cell? ⟨cb + 1, m, none⟩ = some (u32v (nx m)) := (cellOf hU m).trans (arrU_at _ m (by omega))
            have o0 : wr.cell? ⟨q, k, none⟩ = some (u32v 0) := ownsRow_at hrow (by rw [List.getElem?_map, List.getElem?_append_right (by omega), hP, Nat.sub_self]; rfl)
            have o1 := ownsRow_free hrow k
            have hst := ownsRow_store (i := k) hrow (u32v (nx m))
            rw [← List.map_set, List.set_append, if_neg (by omega), hP, Nat.sub_self, List.replicate_succ, List.set_cons_zero, List.append_cons] at hst
            have S1 := S.upd 0 (oSl 34 1 (.slice (some ⟨q, 0, none⟩) l.length l.length) l.length (List.map u32v (P ++ [nx m] ++ List.replicate r (0 : Nat)))) rfl ((Ext.refl _ wr).setCell ⟨q, k, none⟩ (u32v (nx m)) (.inl (by simp [oSl, Value.ownBlock]))) (Fr.refl _ _) hst
            have hU1 := S1.get 1 rfl
            have n1 : (wr.setCell ⟨q, k, none⟩ (u32v (nx m))).cell? ⟨cb + 1, m, none⟩ = some (u32v (nx m)) := (cellOf hU1 m).trans (arrU_at _ m (by omega))
            have n2 : (wr.setCell ⟨q, k, none⟩ (u32v (nx m))).frozen? ⟨cb + 1, m, none⟩ = false := freeOf hU1 m
            have hst2 := heap_setCell_same hU1 (i := m) (u32v (nx m + 1))
            rw [arrU_set] at hst2
            have S2 := S1.upd 1 (Ob.one (cb + 1) (.cells (arrU (up1 nx m (nx m + 1))) 72 (0, 0))) rfl ((Ext.refl [cb + 1] _).setCell ⟨cb + 1, m, none⟩ (u32v (nx m + 1)) (.inl (by simp))) (Fr.refl _ _) hst2
            rw [show u32v (nx m + 1) = .int .u32 ((nx m : Int) + 1) from by rw [show ((nx m : Int) + 1) = ((nx m + 1 : Nat) : Int) from by omega]] at S2
            have hbd2 : ∀ j, j < 17 → up1 nx m (nx m + 1) j ≤ 65536 + (k + 1) := fun j hj => by
              have := hbd j hj
              unfold up1
              split
              · rename_i h; subst h; omega
              · omega
            have HF := Lib.hid (⟨hR, hbd2, S2, hr2, hP⟩ : _ ∧ _ ∧ _ ∧ _ ∧ _)
            generalize nx m = a at n0 n1 n2 hnm HF
            have hm16 : (m : Int) < 17 := by omega
            have h0' : (0 : Int) < (m : Int) := by omega
            clear hR hbd hbd2 S S1 S2 hst hst2 hU hU1 hrow hP hr hr2 hxr
            go_wp2_with fail
            go_roundg (l.length - (k + 1))
            case measure => omega
            case rel =>
              obtain ⟨hR, hbd2, S2, hr2, hP⟩ := HF.out
              exact ⟨k + 1, P ++ [a], up1 nx m (a + 1), by omega, by go_num, by simp [hP], by rw [← List.append_cons]; exact hR, hbd2, by rw [hr2]; exact S2⟩
          · rw [if_neg (by omega)] at hR
            obtain rfl : m = 0 := by omega
            rw [List.replicate_succ, List.append_cons] at S
            have HF := Lib.hid (⟨hR, (fun j hj => by have := hbd j hj; omega : ∀ j, j < 17 → nx j ≤ 65536 + (k + 1)), S, hr2, hP⟩ : _ ∧ _ ∧ _ ∧ _ ∧ _)
            clear hR hbd S hP hr hr2 hxr
            go_wp2_with fail
            go_roundg (l.length - (k + 1))
            case measure => omega
            case rel =>
              obtain ⟨hR, hbd2, S2, hr2, hP⟩ := HF.out
              exact ⟨k + 1, P ++ [0], nx, by omega, by go_num, by simp [hP], by rw [← List.append_cons]; exact hR, hbd2, by rw [hr2]; exact S2⟩
        · obtain rfl : k = l.length := by omega
          rw [List.drop_length, codesF, List.append_nil] at hR
          subst hR
          rw [Nat.sub_self, List.replicate_zero, List.append_nil] at S
          have HS := Lib.hid S
          clear S hbd hP
          go_wp2_with fail
          exact bodyPost_ret (results_tmp2 rfl _ _ _) rfl ⟨_, rfl, HS.out.ext, HS.out.get 0 rfl, HS.out.base _ (List.mem_cons_self ..)⟩
end Go.Proofs.Ytchhgbhbldfofaa.Hu
