/-
  What the reference's bit writer tells as its text (pagemenderref06: Writer.Text).
-/
import Derived.Test.YtcbllkopolbhaaaBitsRefW
namespace Go.Proofs.Ytcbllkopolbhaaa.Bt
open Go.RowKit

theorem cut_getD (L : List Nat) (a k i : Nat) : ((L.drop a).take k).getD i 0 = if i < k then L.getD (a + i) 0 else 0 := by
  simp only [List.getD_eq_getElem?_getD, List.getElem?_take, List.getElem?_drop]
  split <;> rfl
def part (hi : Bool) (L : List Nat) (j k : Nat) : Nat := byteOf hi ((L.drop (8 * j)).take k) 0
theorem part_zero (hi : Bool) (L : List Nat) (j : Nat) : part hi L j 0 = 0 := by simp [part, byteOf]
theorem part_succ (hi : Bool) (L : List Nat) (j k : Nat) (hB : Bin L) (hk : k < 8) (h : 8 * j + k < L.length) : part hi L j (k + 1) = part hi L j k ||| L.getD (8 * j + k) 0 * wt hi k := by
  have hl : ((L.drop (8 * j)).take k).length = k := by simp; omega
  have e : (L.drop (8 * j)).take (k + 1) = (L.drop (8 * j)).take k ++ [L.getD (8 * j + k) 0] := by
    rw [List.take_succ_eq_append_getElem (by simp; omega)]
    simp [List.getD_eq_getElem?_getD, h]
  have h1 := byteOf_snoc_new hi ((L.drop (8 * j)).take k) (L.getD (8 * j + k) 0) (fun x hx => hB x (List.mem_of_mem_drop (List.mem_of_mem_take hx))) (hB.getD _)
  rw [hl, show k / 8 = 0 by omega, show k % 8 = k by omega] at h1
  unfold part
  rw [e, h1]
theorem part_end (hi : Bool) (L : List Nat) (j k : Nat) (h : 8 ≤ k ∨ L.length ≤ 8 * j + k) : part hi L j k = byteOf hi L j := by
  have hz : ∀ i, i < 8 → ((L.drop (8 * j)).take k).getD (8 * 0 + i) 0 = L.getD (8 * j + i) 0 := fun i hi8 => by
    rw [cut_getD]
    split
    · rw [Nat.mul_zero, Nat.zero_add]
    · rw [getD_ge _ _ (by omega)]
  have h0 := hz 0 (by omega)
  rw [Nat.add_zero, Nat.add_zero] at h0
  unfold part byteOf
  rw [h0, hz 1 (by omega), hz 2 (by omega), hz 3 (by omega), hz 4 (by omega), hz 5 (by omega), hz 6 (by omega), hz 7 (by omega)]
theorem part_lt (hi : Bool) (L : List Nat) (j k : Nat) (hB : Bin L) : part hi L j k < 256 := byteOf_lt _ _ (fun x hx => hB x (List.mem_of_mem_drop (List.mem_of_mem_take hx))) _
theorem packB_take (hi : Bool) (L : List Nat) (j : Nat) (h : 8 * j < L.length) : (packB hi L).take (j + 1) = (packB hi L).take j ++ [byteOf hi L j] := by
  rw [List.take_succ_eq_append_getElem (by rw [packB_length]; omega)]
  have := packB_get hi L j (by omega)
  rw [List.getElem?_eq_getElem (by rw [packB_length]; omega)] at this
  rw [Option.some.inj this]

theorem shl_hi (x r : Nat) (hb : x ≤ 1) : (x : Int) * 2 ^ (7 - r) % 256 = ((x * wt true r : Nat) : Int) := by
  have hp : 2 ^ (7 - r) ≤ 2 ^ 7 := Nat.pow_le_pow_right (by omega) (by omega)
  have h1 : x * 2 ^ (7 - r) ≤ 128 := by have := Nat.mul_le_mul hb hp; omega
  have e : ((x : Int) * 2 ^ (7 - r)) = ((x * 2 ^ (7 - r) : Nat) : Int) := by push_cast; rfl
  rw [e]
  simp only [wt, if_true]
  omega
theorem shl_lo (x r : Nat) (hb : x ≤ 1) (hr : r < 8) : (x : Int) * 2 ^ r % 256 = ((x * wt false r : Nat) : Int) := by
  have hp : 2 ^ r ≤ 2 ^ 7 := Nat.pow_le_pow_right (by omega) (by omega)
  have h1 : x * 2 ^ r ≤ 128 := by have := Nat.mul_le_mul hb hp; omega
  have e : ((x : Int) * 2 ^ r) = ((x * 2 ^ r : Nat) : Int) := by push_cast; rfl
  rw [e]
  simp only [wt, Bool.false_eq_true, if_false]
  omega
set_option maxHeartbeats 8000000 in
theorem rftext_hi (b : Nat) (F L : List Nat) (w : World) (hL : L.length < 2 ^ 40) (hB : Bin L) (h : RfW w b F L) :
    Calls Try.prog 33 #[.pointer (some ⟨b, 0, none⟩), .bool true] w fun e w' => e = .returned (.string (txt (packB true L))) ∧ Ext [] w w' := by
  obtain ⟨i0, hi, hz0, hz1, hz2⟩ := info_parts infoByte
  obtain ⟨v0, hb, hown0, hF, hne⟩ := h
  have hlen : (∃ ao cap, v0 = .slice ao L.length cap) := by
    rcases hown0.2 with ⟨rfl, h00⟩ | ⟨g, cap, cur, rfl, _, _, _, _, _⟩
    · exact ⟨none, 0, by rw [h00]⟩
    · exact ⟨_, cap, rfl⟩
  obtain ⟨ao, cap0, rfl⟩ := hlen
  clear hF hne
  have S0 : Sep w w [oSl 5 1 (.slice none 0 0) 0 ([])] := (Sep.start w).new (Ext.refl _ _) (oSl 5 1 (.slice none 0 0) 0 []) (World.ownsRow_nil _ _ _ _) (fun q hq => by simp [oSl, Value.ownBlock] at hq)
  have H0 := Lib.hid S0
  clear S0
  go_enter Try.func33, Try.ntmps33
  go_wp2_with fail
  go_loopg [5, 6] L.length (fun q v i wr => ∃ j : Nat, q + j = L.length ∧ i = .int .i64 (8 * (j : Int)) ∧ 8 * j < L.length + 8 ∧ Sep w wr [oSl 5 1 v j (((packB true L).take j).map b8)])
  case atStart => exact ⟨0, by omega, rfl, by omega, H0.out⟩
  case round =>
    clear H0
    obtain ⟨j, hj, rfl, hj8, S⟩ := hrel
    have hbr := S.ext.keep hb (by simp)
    have c0 : wr.cell? ⟨b, 0, none⟩ = some (.slice ao L.length cap0) := cellOf hbr 0
    by_cases hlt : 8 * j < L.length
    · obtain ⟨g0, cap1, hao, _, _⟩ := hown0.form (by omega)
      simp only [Value.slice.injEq, true_and] at hao
      obtain ⟨rfl, rfl⟩ := hao
      obtain ⟨_, _, hcc, hcm, _, _⟩ := ownsRow_open hown0
      unfold maxLen at hcm
      have hcell : ∀ i, i < L.length → wr.cell? ⟨g0, i, none⟩ = some (.int .u8 (L.getD i 0 : Int)) := fun i hi => by
        refine Ext.cell S.ext (ownsRow_at (u := b8 (L.getD i 0)) hown0 ?_)
        rw [List.getElem?_map, List.getElem?_eq_getElem hi, List.getD_eq_getElem?_getD, List.getElem?_eq_getElem hi]
        rfl
      have HC := Lib.hid hcell
      have HS := Lib.hid S
      clear S hcell
      obtain ⟨wo, hwo⟩ : ∃ wo : World, wo = wr := ⟨wr, rfl⟩
      have HW := Lib.hid hwo
      clear hwo
      have hd : decide (8 * (j : Int) < (L.length : Int)) = true := by simp; omega
      go_wp2_with fail
      go_loopg [7, 8] 8 (fun q v i wr2 => ∃ k : Nat, q + k = 8 ∧ i = .int .i64 k ∧ 8 * j + k ≤ L.length ∧ v = .int .u8 (part true L j k) ∧ wr2 = wo)
      case atStart => exact ⟨0, by omega, rfl, by omega, by rw [part_zero]; rfl, HW.out.symm⟩
      case round =>
        obtain ⟨k, hk, rfl, hkl, rfl, hw2⟩ := hrel
        have hw3 := hw2.trans HW.out
        subst hw3
        clear hw2
        by_cases hk8 : k < 8
        · by_cases hkn : 8 * j + k < L.length
          · have hck := HC.out (8 * j + k) hkn
            have hbit : L.getD (8 * j + k) 0 ≤ 1 := hB.getD _
            have hpl := part_lt true L j k hB
            have e1 := shl_hi (L.getD (8 * j + k) 0) k hbit
            have e2 := u8_or_nat (part true L j k) (L.getD (8 * j + k) 0 * wt true k) hpl (wt_le _ _ _ hbit hk8)
            have hr := part_succ true L j k hB hk8 hkn
            generalize L.getD (8 * j + k) 0 * wt true k = y at *
            generalize L.getD (8 * j + k) 0 = x at *
            have Hr := Lib.hid hr
            have hix : (8 : Int) * (j : Int) + (k : Int) < (L.length : Int) := by omega
            clear hr
            go_wp2_with fail
            go_roundg (8 - (k + 1))
            case measure => omega
            case rel => exact ⟨k + 1, by omega, by go_num, by omega, by rw [Hr.out], HW.out.symm⟩
          · have hend := part_end true L j k (.inr (by omega))
            have Hend := Lib.hid hend
            have hix : (L.length : Int) ≤ (8 : Int) * (j : Int) + (k : Int) := by omega
            clear hend
            have hown := HS.out.get 0 rfl
            have hp1 : byteOf true L j < 256 := byteOf_lt _ _ hB _
            go_wp2_with (first | (at_builtin; refine wpList_append_lies _ rfl _ _ 36 rfl 0 5 i0 _ 1 1 Try.underlying36 hi hz0 hz1 hz2 rfl (by decide) _ j _ rfl (World.ownsRow.alloc hown _) ⟨wr.heap.size, 0, none⟩ 1 1 [.int .u8 (part true L j k : Int)] rfl rfl (cell_one_new _ _ _) (by simp [Value.oneCell']) (by decide) (by unfold maxLen; omega) (by omega) (by omega) (wr.heap.size + 1) (by simp) ?_; intro g cap2 w1 hown1 hgrow hat hlt2; clear c0))
            go_roundg (L.length - (j + 1))
            case measure => omega
            case rel =>
              have P := push_local (cap := cap2) (n := j + 1) hgrow hat
              refine ⟨j + 1, by omega, by go_num, by omega, HS.out.upd 0 (oSl 5 1 (.slice (some ⟨g, 0, none⟩) (j + 1) cap2) (j + 1) (((packB true L).take (j + 1)).map b8)) rfl P.1 P.2 ?_⟩
              rw [packB_take _ _ _ hlt, List.map_append, ← Hend.out]
              exact hown1
        · have hend := part_end true L j k (.inl (by omega))
          have Hend := Lib.hid hend
          clear hend
          have hown := HS.out.get 0 rfl
          have hp1 : byteOf true L j < 256 := byteOf_lt _ _ hB _
          go_wp2_with (first | (at_builtin; refine wpList_append_lies _ rfl _ _ 36 rfl 0 5 i0 _ 1 1 Try.underlying36 hi hz0 hz1 hz2 rfl (by decide) _ j _ rfl (World.ownsRow.alloc hown _) ⟨wr.heap.size, 0, none⟩ 1 1 [.int .u8 (part true L j k : Int)] rfl rfl (cell_one_new _ _ _) (by simp [Value.oneCell']) (by decide) (by unfold maxLen; omega) (by omega) (by omega) (wr.heap.size + 1) (by simp) ?_; intro g cap2 w1 hown1 hgrow hat hlt2; clear c0))
          go_roundg (L.length - (j + 1))
          case measure => omega
          case rel =>
            have P := push_local (cap := cap2) (n := j + 1) hgrow hat
            refine ⟨j + 1, by omega, by go_num, by omega, HS.out.upd 0 (oSl 5 1 (.slice (some ⟨g, 0, none⟩) (j + 1) cap2) (j + 1) (((packB true L).take (j + 1)).map b8)) rfl P.1 P.2 ?_⟩
            rw [packB_take _ _ _ hlt, List.map_append, ← Hend.out]
            exact hown1
    · have hj2 : j = (L.length + 7) / 8 := by omega
      have he : (packB true L).take j = packB true L := List.take_of_length_le (by rw [packB_length]; omega)
      rw [he] at S
      have hc := run_row_text (S.get 0 rfl)
      have HX := Lib.hid S.ext
      have hlt' : ¬ (8 : Int) * (j : Int) < (L.length : Int) := by omega
      clear S he hj2
      go_wp2_with fail
      go_ret
      exact ⟨rfl, HX.out⟩
set_option maxHeartbeats 8000000 in
theorem rftext_lo (b : Nat) (F L : List Nat) (w : World) (hL : L.length < 2 ^ 40) (hB : Bin L) (h : RfW w b F L) :
    Calls Try.prog 33 #[.pointer (some ⟨b, 0, none⟩), .bool false] w fun e w' => e = .returned (.string (txt (packB false L))) ∧ Ext [] w w' := by
  obtain ⟨i0, hi, hz0, hz1, hz2⟩ := info_parts infoByte
  obtain ⟨v0, hb, hown0, hF, hne⟩ := h
  have hlen : (∃ ao cap, v0 = .slice ao L.length cap) := by
    rcases hown0.2 with ⟨rfl, h00⟩ | ⟨g, cap, cur, rfl, _, _, _, _, _⟩
    · exact ⟨none, 0, by rw [h00]⟩
    · exact ⟨_, cap, rfl⟩
  obtain ⟨ao, cap0, rfl⟩ := hlen
  clear hF hne
  have S0 : Sep w w [oSl 5 1 (.slice none 0 0) 0 ([])] := (Sep.start w).new (Ext.refl _ _) (oSl 5 1 (.slice none 0 0) 0 []) (World.ownsRow_nil _ _ _ _) (fun q hq => by simp [oSl, Value.ownBlock] at hq)
  have H0 := Lib.hid S0
  clear S0
  go_enter Try.func33, Try.ntmps33
  go_wp2_with fail
  go_loopg [5, 6] L.length (fun q v i wr => ∃ j : Nat, q + j = L.length ∧ i = .int .i64 (8 * (j : Int)) ∧ 8 * j < L.length + 8 ∧ Sep w wr [oSl 5 1 v j (((packB false L).take j).map b8)])
  case atStart => exact ⟨0, by omega, rfl, by omega, H0.out⟩
  case round =>
    clear H0
    obtain ⟨j, hj, rfl, hj8, S⟩ := hrel
    have hbr := S.ext.keep hb (by simp)
    have c0 : wr.cell? ⟨b, 0, none⟩ = some (.slice ao L.length cap0) := cellOf hbr 0
    by_cases hlt : 8 * j < L.length
    · obtain ⟨g0, cap1, hao, _, _⟩ := hown0.form (by omega)
      simp only [Value.slice.injEq, true_and] at hao
      obtain ⟨rfl, rfl⟩ := hao
      obtain ⟨_, _, hcc, hcm, _, _⟩ := ownsRow_open hown0
      unfold maxLen at hcm
      have hcell : ∀ i, i < L.length → wr.cell? ⟨g0, i, none⟩ = some (.int .u8 (L.getD i 0 : Int)) := fun i hi => by
        refine Ext.cell S.ext (ownsRow_at (u := b8 (L.getD i 0)) hown0 ?_)
        rw [List.getElem?_map, List.getElem?_eq_getElem hi, List.getD_eq_getElem?_getD, List.getElem?_eq_getElem hi]
        rfl
      have HC := Lib.hid hcell
      have HS := Lib.hid S
      clear S hcell
      obtain ⟨wo, hwo⟩ : ∃ wo : World, wo = wr := ⟨wr, rfl⟩
      have HW := Lib.hid hwo
      clear hwo
      have hd : decide (8 * (j : Int) < (L.length : Int)) = true := by simp; omega
      go_wp2_with fail
      go_loopg [7, 8] 8 (fun q v i wr2 => ∃ k : Nat, q + k = 8 ∧ i = .int .i64 k ∧ 8 * j + k ≤ L.length ∧ v = .int .u8 (part false L j k) ∧ wr2 = wo)
      case atStart => exact ⟨0, by omega, rfl, by omega, by rw [part_zero]; rfl, HW.out.symm⟩
      case round =>
        obtain ⟨k, hk, rfl, hkl, rfl, hw2⟩ := hrel
        have hw3 := hw2.trans HW.out
        subst hw3
        clear hw2
        by_cases hk8 : k < 8
        · by_cases hkn : 8 * j + k < L.length
          · have hck := HC.out (8 * j + k) hkn
            have hbit : L.getD (8 * j + k) 0 ≤ 1 := hB.getD _
            have hpl := part_lt false L j k hB
            have e1 := shl_lo (L.getD (8 * j + k) 0) k hbit hk8
            have e2 := u8_or_nat (part false L j k) (L.getD (8 * j + k) 0 * wt false k) hpl (wt_le _ _ _ hbit hk8)
            have hr := part_succ false L j k hB hk8 hkn
            generalize L.getD (8 * j + k) 0 * wt false k = y at *
            generalize L.getD (8 * j + k) 0 = x at *
            have Hr := Lib.hid hr
            have hix : (8 : Int) * (j : Int) + (k : Int) < (L.length : Int) := by omega
            clear hr
            go_wp2_with fail
            go_roundg (8 - (k + 1))
            case measure => omega
            case rel => exact ⟨k + 1, by omega, by go_num, by omega, by rw [Hr.out], HW.out.symm⟩
          · have hend := part_end false L j k (.inr (by omega))
            have Hend := Lib.hid hend
            have hix : (L.length : Int) ≤ (8 : Int) * (j : Int) + (k : Int) := by omega
            clear hend
            have hown := HS.out.get 0 rfl
            have hp1 : byteOf false L j < 256 := byteOf_lt _ _ hB _
            go_wp2_with (first | (at_builtin; refine wpList_append_lies _ rfl _ _ 36 rfl 0 5 i0 _ 1 1 Try.underlying36 hi hz0 hz1 hz2 rfl (by decide) _ j _ rfl (World.ownsRow.alloc hown _) ⟨wr.heap.size, 0, none⟩ 1 1 [.int .u8 (part false L j k : Int)] rfl rfl (cell_one_new _ _ _) (by simp [Value.oneCell']) (by decide) (by unfold maxLen; omega) (by omega) (by omega) (wr.heap.size + 1) (by simp) ?_; intro g cap2 w1 hown1 hgrow hat hlt2; clear c0))
            go_roundg (L.length - (j + 1))
            case measure => omega
            case rel =>
              have P := push_local (cap := cap2) (n := j + 1) hgrow hat
              refine ⟨j + 1, by omega, by go_num, by omega, HS.out.upd 0 (oSl 5 1 (.slice (some ⟨g, 0, none⟩) (j + 1) cap2) (j + 1) (((packB false L).take (j + 1)).map b8)) rfl P.1 P.2 ?_⟩
              rw [packB_take _ _ _ hlt, List.map_append, ← Hend.out]
              exact hown1
        · have hend := part_end false L j k (.inl (by omega))
          have Hend := Lib.hid hend
          clear hend
          have hown := HS.out.get 0 rfl
          have hp1 : byteOf false L j < 256 := byteOf_lt _ _ hB _
          go_wp2_with (first | (at_builtin; refine wpList_append_lies _ rfl _ _ 36 rfl 0 5 i0 _ 1 1 Try.underlying36 hi hz0 hz1 hz2 rfl (by decide) _ j _ rfl (World.ownsRow.alloc hown _) ⟨wr.heap.size, 0, none⟩ 1 1 [.int .u8 (part false L j k : Int)] rfl rfl (cell_one_new _ _ _) (by simp [Value.oneCell']) (by decide) (by unfold maxLen; omega) (by omega) (by omega) (wr.heap.size + 1) (by simp) ?_; intro g cap2 w1 hown1 hgrow hat hlt2; clear c0))
          go_roundg (L.length - (j + 1))
          case measure => omega
          case rel =>
            have P := push_local (cap := cap2) (n := j + 1) hgrow hat
            refine ⟨j + 1, by omega, by go_num, by omega, HS.out.upd 0 (oSl 5 1 (.slice (some ⟨g, 0, none⟩) (j + 1) cap2) (j + 1) (((packB false L).take (j + 1)).map b8)) rfl P.1 P.2 ?_⟩
            rw [packB_take _ _ _ hlt, List.map_append, ← Hend.out]
            exact hown1
    · have hj2 : j = (L.length + 7) / 8 := by omega
      have he : (packB false L).take j = packB false L := List.take_of_length_le (by rw [packB_length]; omega)
      rw [he] at S
      have hc := run_row_text (S.get 0 rfl)
      have HX := Lib.hid S.ext
      have hlt' : ¬ (8 : Int) * (j : Int) < (L.length : Int) := by omega
      clear S he hj2
      go_wp2_with fail
      go_ret
      exact ⟨rfl, HX.out⟩
end Go.Proofs.Ytcbllkopolbhaaa.Bt
