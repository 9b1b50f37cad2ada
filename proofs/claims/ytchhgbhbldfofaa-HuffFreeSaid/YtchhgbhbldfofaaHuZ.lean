/-
  The document's Codes (chapter 7) walked.
-/
import Derived.Test.YtchhgbhbldfofaaHuY
namespace Go.Proofs.Ytchhgbhbldfofaa.Hu
open Go.RowKit

/-- codes so far: of lengths below n, and of length n below the i-th -/
def outF (l : List Int) (n i : Nat) : List Nat := (List.range l.length).map fun j => if 0 < l.getD j 0 ∧ (l.getD j 0 < (n : Int) ∨ (l.getD j 0 = (n : Int) ∧ j < i)) then (codesN l).getD j 0 else 0
theorem outF_len (l : List Int) (n i : Nat) : (outF l n i).length = l.length := by simp [outF]
theorem outF_at (l : List Int) (n i j : Nat) (h : j < l.length) : (outF l n i)[j]? = some (if 0 < l.getD j 0 ∧ (l.getD j 0 < (n : Int) ∨ (l.getD j 0 = (n : Int) ∧ j < i)) then (codesN l).getD j 0 else 0) := by
  unfold outF
  rw [List.getElem?_map, List.getElem?_range h]
  rfl
theorem outF_start (l : List Int) : outF l 1 0 = List.replicate l.length 0 := by
  apply List.ext_getElem?
  intro j
  by_cases h : j < l.length
  · rw [outF_at _ _ _ _ h, List.getElem?_replicate, if_pos h, if_neg (by omega)]
  · rw [List.getElem?_eq_none (by rw [outF_len]; omega), List.getElem?_eq_none (by simp; omega)]
theorem outF_next (l : List Int) (n : Nat) : outF l n l.length = outF l (n + 1) 0 := by
  apply List.ext_getElem?
  intro j
  by_cases h : j < l.length
  · rw [outF_at _ _ _ _ h, outF_at _ _ _ _ h]
    congr 1
    have : (0 < l.getD j 0 ∧ (l.getD j 0 < (n : Int) ∨ (l.getD j 0 = (n : Int) ∧ j < l.length))) ↔ (0 < l.getD j 0 ∧ (l.getD j 0 < ((n + 1 : Nat) : Int) ∨ (l.getD j 0 = ((n + 1 : Nat) : Int) ∧ j < 0))) := by omega
    simp only [this]
  · rw [List.getElem?_eq_none (by rw [outF_len]; omega), List.getElem?_eq_none (by rw [outF_len]; omega)]
theorem outF_skip (l : List Int) (n i : Nat) (h : l.getD i 0 ≠ (n : Int)) : outF l n (i + 1) = outF l n i := by
  apply List.ext_getElem?
  intro j
  by_cases hj : j < l.length
  · rw [outF_at _ _ _ _ hj, outF_at _ _ _ _ hj]
    congr 1
    by_cases hji : j = i
    · subst hji
      have : (0 < l.getD j 0 ∧ (l.getD j 0 < (n : Int) ∨ (l.getD j 0 = (n : Int) ∧ j < j + 1))) ↔ (0 < l.getD j 0 ∧ (l.getD j 0 < (n : Int) ∨ (l.getD j 0 = (n : Int) ∧ j < j))) := by omega
      simp only [this]
    · have : (j < i + 1) ↔ (j < i) := by omega
      simp only [this]
  · rw [List.getElem?_eq_none (by rw [outF_len]; omega), List.getElem?_eq_none (by rw [outF_len]; omega)]
theorem outF_set (l : List Int) (n i : Nat) (hi : i < l.length) (hn : 0 < n) (h : l.getD i 0 = (n : Int)) : (outF l n i).set i ((codesN l).getD i 0) = outF l n (i + 1) := by
  apply List.ext_getElem?
  intro j
  by_cases hj : j < l.length
  · rw [outF_at _ _ _ _ hj, List.getElem?_set]
    by_cases hji : i = j
    · subst hji
      rw [if_pos rfl, if_pos (by rw [outF_len]; exact hi), if_pos ⟨by omega, .inr ⟨h, by omega⟩⟩]
    · rw [if_neg hji, outF_at _ _ _ _ hj]
      have : (j < i + 1) ↔ (j < i) := by omega
      simp only [this]
  · rw [List.getElem?_eq_none (by rw [List.length_set, outF_len]; omega), List.getElem?_eq_none (by rw [outF_len]; omega)]
theorem codesN_at (l : List Int) (j : Nat) (h : j < l.length) : (codesN l).getD j 0 = if 0 < l.getD j 0 then nxN (cntF l) (l.getD j 0).toNat + cntI (l.take j) (l.getD j 0).toNat else 0 := by
  have h1 := codesF_at l (nxN (cntF l)) j _ (List.getElem?_eq_getElem h)
  rw [List.getD_eq_getElem?_getD, List.getD_eq_getElem?_getD, List.getElem?_eq_getElem h]
  unfold codesN
  rw [h1]
  rfl
theorem outF_end (l : List Int) (hr : ∀ x ∈ l, 0 ≤ x ∧ x ≤ 15) : outF l 16 0 = codesN l := by
  have hlen : (codesN l).length = l.length := codesF_len l _
  apply List.ext_getElem?
  intro j
  by_cases hj : j < l.length
  · rw [outF_at _ _ _ _ hj, List.getElem?_eq_getElem (by omega)]
    congr 1
    have hx := hr (l.getD j 0) (by rw [List.getD_eq_getElem?_getD, List.getElem?_eq_getElem hj]; exact List.getElem_mem hj)
    by_cases h0 : 0 < l.getD j 0
    · rw [if_pos ⟨h0, .inl (by omega)⟩, List.getD_eq_getElem?_getD, List.getElem?_eq_getElem (by omega)]
      rfl
    · rw [if_neg (by omega)]
      have := codesN_at l j hj
      rw [if_neg h0, List.getD_eq_getElem?_getD, List.getElem?_eq_getElem (by omega)] at this
      exact this.symm
  · rw [List.getElem?_eq_none (by rw [outF_len]; omega), List.getElem?_eq_none (by omega)]
theorem cntI_take_le (l : List Int) (i n : Nat) : cntI (l.take i) n ≤ cntI l n := by
  unfold cntI
  exact (List.take_sublist i l).countP_le
set_option maxRecDepth 100000 in
set_option maxHeartbeats 4000000 in
theorem rcodes_err (v : Value) (l : List Int) (w : World) (hv : IntsAt w v l) (hl : l.length ≤ 1048576) (he : codesE l ≠ 0) :
    Calls Try.prog 15 #[v] w fun e w' => e = .returned (.tuple #[.slice none 0 0, .int .i64 (codesE l)]) ∧ w = w' := by
  have hst := rstate_walk v l w hv hl
  by_cases hb : badL l = true
  · have e : stateN l = (0, 2) := by unfold stateN; rw [if_pos hb]
    have e2 : codesE l = 2 := by unfold codesE; rw [if_pos hb]
    rw [e] at hst
    rw [e2]
    have HST := Lib.hid hst
    obtain ⟨ao, cap, rfl, hc⟩ := hv
    clear hst hc hb e e2 he
    go_enter Try.func15, Try.ntmps15
    go_wp2_with fail
    refine HST.out.mono ?_
    clear HST
    rintro e w1 ⟨rfl, rfl⟩
    go_wp2_with fail
    exact bodyPost_ret (results_tmp2 rfl _ _ _) rfl ⟨rfl, rfl⟩
  · have e2 : codesE l = if 32768 < kra l then 4 else 0 := by unfold codesE; rw [if_neg hb]
    have hk : 32768 < kra l := by
      rw [e2] at he
      split at he
      · assumption
      · exact absurd rfl he
    rw [if_pos hk] at e2
    have hcz : cmpZ (kra l) 32768 = 1 := by
      rcases cmpZ_cases (kra l) 32768 with ⟨h, _⟩ | ⟨_, h⟩ | ⟨h, h2⟩ <;> omega
    have e : stateN l = (1, 0) := by unfold stateN; rw [if_neg hb, hcz]
    rw [e] at hst
    rw [e2]
    have HST := Lib.hid hst
    obtain ⟨ao, cap, rfl, hc⟩ := hv
    clear hst hc hb e e2 he hk hcz
    go_enter Try.func15, Try.ntmps15
    go_wp2_with fail
    refine HST.out.mono ?_
    clear HST
    rintro e w1 ⟨rfl, rfl⟩
    go_wp2_with fail
    exact bodyPost_ret (results_tmp2 rfl _ _ _) rfl ⟨rfl, rfl⟩
set_option maxRecDepth 100000 in
set_option maxHeartbeats 8000000 in
theorem rcodes_ok (v : Value) (l : List Int) (w : World) (hv : IntsAt w v l) (hb : badL l = false) (hk : kra l ≤ 32768) :
    Calls Try.prog 15 #[v] w fun e w' => ∃ v', e = .returned (.tuple #[v', .int .i64 0]) ∧ Ext [] w w' ∧ (oSl 34 1 v' l.length ((codesN l).map u32v)).P w' ∧ ∀ k ∈ v'.ownBlock.toList, w.heap.size ≤ k := by
  have hl2 := (bad_false hb).1
  have hrg := (bad_false hb).2
  have hst := rstate_walk v l w hv (by omega)
  have e : stateN l = (cmpZ (kra l) 32768, 0) := by unfold stateN; rw [hb]; rfl
  rw [e] at hst
  simp only at hst
  have hcz : cmpZ (kra l) 32768 ≤ 0 := by
    rcases cmpZ_cases (kra l) 32768 with ⟨_, h⟩ | ⟨h, _⟩ | ⟨_, h⟩ <;> omega
  obtain ⟨cz, hczz⟩ : ∃ cz, cmpZ (kra l) 32768 = cz := ⟨_, rfl⟩
  rw [hczz] at hst hcz
  have hnx := nxN_le (cntF l) hk
  obtain ⟨j0, hjf, hy0, hy1, hy2⟩ := info_parts infoU32
  have HST := Lib.hid hst
  have HH := Lib.hid (⟨hrg, hnx⟩ : _ ∧ _)
  obtain ⟨ao, cap, rfl, hc⟩ := hv
  have HC := Lib.hid hc
  clear hst hrg hnx hb hk e hczz hc
  go_enter Try.func15, Try.ntmps15
  go_wp2_with fail
  refine HST.out.mono ?_
  clear HST
  rintro e w1 ⟨rfl, rfl⟩
  obtain ⟨w4, hmk, hown, hgrow⟩ := run_make_full (P := Try.prog) w 0 27 34 j0 (.int .u32 0) 1 Try.underlying27 hjf hy0 hy1 .i64 .i64 l.length (by rw [hy2]; omega) (by unfold maxLen; omega) (by omega)
  have hx4 : Ext [] w w4 := (Ext.refl [] w).grown hgrow (fun k hk => by cases hk)
  have S := (Sep.start w).new hx4 (oSl 34 1 (.slice (some ⟨w.heap.size, 0, none⟩) l.length l.length) l.length ((outF l 1 0).map u32v)) (by
    have hm : (madeCells (Value.int .u32 0).cells (l.length * 1)).toList = (outF l 1 0).map u32v := by
      rw [outF_start, List.map_replicate, Nat.mul_one]
      exact toList_madeCells_one _ _
    rw [← hm]; exact hown) (fun q hq => by simp [oSl, Value.ownBlock] at hq; omega)
  obtain ⟨q, hq⟩ : ∃ q, w.heap.size = q := ⟨_, rfl⟩
  rw [hq] at hmk S
  have HS := Lib.hid S
  clear hx4 hown hgrow S hq
  go_wp2_with fail
  clear hmk
  go_loopg [7, 8] 15 (fun g nv iv wr => ∃ n nx : Nat, g + n = 16 ∧ 1 ≤ n ∧ iv = .int .i64 n ∧ nv = .int .u32 nx ∧ (n ≤ 15 → 2 * nx = nxN (cntF l) n) ∧ nx ≤ 65536 ∧ Sep w wr [oSl 34 1 (.slice (some ⟨q, 0, none⟩) l.length l.length) l.length ((outF l n 0).map u32v)])
  case atStart => exact ⟨1, 0, by omega, by omega, rfl, rfl, fun _ => by simp [nxN, cntF], by omega, HS.out⟩
  case round =>
    clear HS
    obtain ⟨n, nx, hn, hn1, rfl, rfl, hnx, hnx9, S⟩ := hrel
    by_cases hlt : n ≤ 15
    · have hlt' : (n : Int) ≤ 15 := by omega
      have HN := Lib.hid (⟨hnx hlt, S⟩ : _ ∧ _)
      clear hnx S
      go_wp2_with fail
      clear hlt'
      have hs0 : nx * 2 = nxN (cntF l) n + cntI (l.take 0) n := by have := HN.out.1; simp [cntI]; omega
      have HS0 := Lib.hid hs0
      clear hs0
      go_loopg [7, 9] l.length (fun g nv iv wr => ∃ i nx : Nat, g + i = l.length ∧ iv = .int .i64 i ∧ nv = .int .u32 nx ∧ nx = nxN (cntF l) n + cntI (l.take i) n ∧ Sep w wr [oSl 34 1 (.slice (some ⟨q, 0, none⟩) l.length l.length) l.length ((outF l n i).map u32v)])
      case atStart => exact ⟨0, nx * 2, by omega, rfl, by go_num, HS0.out, HN.out.2⟩
      case round =>
        clear HN HS0 hnx9
        obtain ⟨i, nx, hi, rfl, rfl, hnx, S⟩ := hrel
        have hle := HH.out.2 n hlt
        have hp : 2 ^ n ≤ 2 ^ 15 := Nat.pow_le_pow_right (by omega) hlt
        have hct : cntI (l.take i) n ≤ cntF l n := by
          have := cntI_take_le l i n
          unfold cntF
          rw [if_neg (by omega)]
          exact this
        have hnx9 : nx ≤ 32768 := by omega
        by_cases hil : i < l.length
        · obtain ⟨b, off, rfl, hcell⟩ := HC.out (by omega)
          obtain ⟨x, hck⟩ : ∃ x, l[i]? = some x := ⟨_, List.getElem?_eq_getElem hil⟩
          have d0 := Ext.cell S.ext (hcell i x hck)
          have hgx : l.getD i 0 = x := by rw [List.getD_eq_getElem?_getD, hck]; rfl
          have htk := cntI_snoc (l.take i) x n
          rw [← ints_take l i x hck] at htk
          clear hcell hck
          by_cases hxn : x = (n : Int)
          · rw [if_pos hxn] at htk
            subst hxn
            have hrow : wr.ownsRow 0 34 1 (.slice (some ⟨q, 0, none⟩) l.length l.length) l.length ((outF l n i).map u32v) := S.get 0 rfl
            have hcd := codesN_at l i hil
            rw [hgx, if_pos (by omega), Int.toNat_natCast, ← hnx] at hcd
            obtain ⟨old, hold⟩ : ∃ old, (outF l n i)[i]? = some old := ⟨_, outF_at l n i i hil⟩
            have o0 : wr.cell? ⟨q, i, none⟩ = some (u32v old) := ownsRow_at hrow (by rw [List.getElem?_map, hold]; rfl)
            have o1 := ownsRow_free hrow i
            have hst := ownsRow_store (i := i) hrow (u32v nx)
            rw [← List.map_set, ← hcd, outF_set l n i hil (by omega) hgx, hcd] at hst
            have S2 := S.upd 0 (oSl 34 1 (.slice (some ⟨q, 0, none⟩) l.length l.length) l.length ((outF l n (i + 1)).map u32v)) rfl ((Ext.refl _ wr).setCell ⟨q, i, none⟩ (u32v nx) (.inl (by simp [oSl, Value.ownBlock]))) (Fr.refl _ _) hst
            have HF := Lib.hid (⟨S2, hnx, htk⟩ : _ ∧ _ ∧ _)
            clear S S2 hnx hgx htk hcd hold hst hrow hct hp hle
            go_wp2_with fail
            go_roundg (l.length - (i + 1))
            case measure => omega
            case rel => exact ⟨i + 1, nx + 1, by omega, by go_num, by go_num, by have h1 := HF.out.2.1; have h2 := HF.out.2.2; omega, HF.out.1⟩
          · rw [if_neg hxn] at htk
            rw [← outF_skip l n i (by rw [hgx]; exact hxn)] at S
            have HF := Lib.hid (⟨S, hnx, htk⟩ : _ ∧ _ ∧ _)
            clear S hnx hgx htk hct hp hle
            go_wp2_with fail
            go_roundg (l.length - (i + 1))
            case measure => omega
            case rel => exact ⟨i + 1, nx, by omega, by go_num, by go_num, by have h1 := HF.out.2.1; have h2 := HF.out.2.2; omega, HF.out.1⟩
        · obtain rfl : i = l.length := by omega
          rw [List.take_length] at hnx
          rw [outF_next] at S
          have hcf : cntF l n = cntI l n := by unfold cntF; rw [if_neg (by omega)]
          have HF := Lib.hid (⟨S, by rw [nxN, hcf]; omega⟩ : _ ∧ 2 * nx = nxN (cntF l) (n + 1))
          clear S hnx hct hp hle hcf
          go_wp2_with fail
          go_roundg (15 - n)
          case measure => omega
          case rel => exact ⟨n + 1, nx, by omega, by omega, by go_num, by go_num, fun _ => HF.out.2, by omega, HF.out.1⟩
    · obtain rfl : n = 16 := by omega
      rw [outF_end l HH.out.1] at S
      have HS := Lib.hid S
      clear S hnx
      go_wp2_with fail
      exact bodyPost_ret (results_tmp2 rfl _ _ _) rfl ⟨_, rfl, HS.out.ext, HS.out.get 0 rfl, HS.out.base _ (List.mem_cons_self ..)⟩
end Go.Proofs.Ytchhgbhbldfofaa.Hu
