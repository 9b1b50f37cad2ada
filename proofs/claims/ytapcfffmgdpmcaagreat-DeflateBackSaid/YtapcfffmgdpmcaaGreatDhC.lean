/-
  The law DeflateBack walked.
-/
import Derived.Test.YtapcfffmgdpmcaaGreatDhL
import Derived.Test.YtapcfffmgdpmcaaGreatDgJ
import Derived.Test.YtapcfffmgdpmcaaGreatPkR
namespace Go.Proofs.YtapcfffmgdpmcaaGreat.De
open Go.RowKit Bt Hu If Mt

theorem txt_nB (s : ByteArray) : txt (nB (B s)) = s := by
  unfold txt nB B
  apply ByteArray.ext
  apply Array.ext'
  simp only [List.map_map]
  conv => rhs; rw [← List.map_id s.data.toList]
  apply List.map_congr_left
  intro x _
  simp
theorem back_of (P s : ByteArray) (bits : Nat) (h : ∀ t Bg, s.size ≤ Bg → runR (P ++ t) Bg = .ok () bits (nB (B s))) (hz : (bits + 7) / 8 = P.size) : runV P s.size = .tuple #[.string s, .int .i64 (P.size : Nat), .int .i64 0] := by
  have h0 := h ByteArray.empty s.size (Nat.le_refl _)
  rw [ByteArray.append_empty] at h0
  unfold runV
  rw [h0]
  simp only
  rw [txt_nB, hz]
theorem way_back (s : ByteArray) (hs : s.size ≤ 65535) :
    runV (storedN s) s.size = .tuple #[.string s, .int .i64 ((storedN s).size : Nat), .int .i64 0] ∧ runV (fixedN s) s.size = .tuple #[.string s, .int .i64 ((fixedN s).size : Nat), .int .i64 0] ∧ runV (dynN s) s.size = .tuple #[.string s, .int .i64 ((dynN s).size : Nat), .int .i64 0] :=
  ⟨back_of _ s _ (fun t Bg h => stored_run s t Bg hs h) (by omega), back_of _ s _ (fun t Bg h => fixed_run s t Bg h) (fixedN_size s).symm, back_of _ s _ (fun t Bg h => dyn_run s t Bg (by omega) h) (dynN_size s).symm⟩
theorem best_back (s : ByteArray) (hs : s.size ≤ 65535) : runV (bestN s) s.size = .tuple #[.string s, .int .i64 ((bestN s).size : Nat), .int .i64 0] := by
  obtain ⟨h1, h2, h3⟩ := way_back s hs
  rcases best_is s with h | h | h <;> rw [h] <;> assumption
theorem way_sizes (s : ByteArray) (hs : s.size ≤ 500) : (storedN s).size ≤ 1048576 ∧ (fixedN s).size ≤ 1048576 ∧ (dynN s).size ≤ 1048576 := by
  have h1 := fixedN_size s
  have h2 := (fixedB_facts s).1
  have h3 := dynN_size s
  have h4 := (dynB8_facts s (by omega)).1
  refine ⟨?_, by omega, by omega⟩
  unfold storedN
  rw [txt_size, stored_one s (by omega), List.length_append, nB_len, B_len]
  simp only [hdS, List.length_cons, List.length_nil]
  omega
theorem str_ne {a b : ByteArray} (h : ¬ a = b) : (a.toList == b.toList) = false := by
  refine beq_eq_false_iff_ne.2 fun e => h ?_
  rw [ByteArray.toList_eq, ByteArray.toList_eq] at e
  exact ByteArray.ext (Array.ext' e)
set_option maxRecDepth 100000 in
set_option maxHeartbeats 16000000 in
theorem back10_law (s : ByteArray) (w : World) (_hm : s.size ≤ maxLen) :
    Calls Tryz.prog 3 #[.string s] w fun e w' => e = .returned (.bool true) ∧ Ext [] w w' := by
  by_cases hs : s.size ≤ 500
  · obtain ⟨r0, r1, r2⟩ := way_back s (by omega)
    have r3 := best_back s (by omega)
    obtain ⟨z0, z1, z2⟩ := way_sizes s hs
    obtain ⟨y0, y1, y2⟩ := best_le s
    have hb := best_is s
    have h0 := fun w => stored_walk s w (by omega)
    have h1 := fun w => fixedD_walk s w (by omega)
    have h2 := fun w => dynD_walk s w (by omega)
    have h3 := fun w => best_walk s w (by omega)
    obtain ⟨P0, hP0⟩ : ∃ P, storedN s = P := ⟨_, rfl⟩
    obtain ⟨P1, hP1⟩ : ∃ P, fixedN s = P := ⟨_, rfl⟩
    obtain ⟨P2, hP2⟩ : ∃ P, dynN s = P := ⟨_, rfl⟩
    obtain ⟨P3, hP3⟩ : ∃ P, bestN s = P := ⟨_, rfl⟩
    simp only [hP0, hP1, hP2, hP3] at r0 r1 r2 r3 z0 z1 z2 y0 y1 y2 hb h0 h1 h2 h3
    have HWK := Lib.hid (⟨h0, h1, h2, h3⟩ : _ ∧ _ ∧ _ ∧ _)
    have HR := Lib.hid (⟨r0, r1, r2, r3⟩ : _ ∧ _ ∧ _ ∧ _)
    have HB := Lib.hid hb
    clear r0 r1 r2 r3 hb h0 h1 h2 h3 hP0 hP1 hP2 hP3
    go_enter Tryz.func3, Tryz.ntmps3
    go_wp2_with fail
    refine (lives10 w).mono ?_
    rintro e w1 ⟨rfl, hx⟩
    have HX := Lib.hid hx
    clear hx
    go_wp2_with fail
    refine (HWK.out.1 w1).mono ?_
    rintro e w2 ⟨rfl, hx⟩
    have HX := Lib.hid (HX.out.trans hx)
    clear hx
    go_wp2_with fail
    refine (HWK.out.2.1 w2).mono ?_
    rintro e w3 ⟨rfl, hx⟩
    have HX := Lib.hid (HX.out.trans hx)
    clear hx
    go_wp2_with fail
    refine (HWK.out.2.2.1 w3).mono ?_
    rintro e w4 ⟨rfl, hx⟩
    have HX := Lib.hid (HX.out.trans hx)
    clear hx
    go_wp2_with fail
    refine (HWK.out.2.2.2 w4).mono ?_
    rintro e w5 ⟨rfl, hx⟩
    have HX := Lib.hid (HX.out.trans hx)
    clear hx
    go_upto_region 6 with fail
    obtain ⟨W, hW⟩ : ∃ W, w5.alloc (.cells #[.string P0, .string P1, .string P2, .string P3] 9) = W := ⟨_, rfl⟩
    obtain ⟨b, hb⟩ : ∃ b, w5.heap.size = b := ⟨_, rfl⟩
    have hbk : W.heap[b]? = some (.cells #[.string P0, .string P1, .string P2, .string P3] 9 (0, 0)) := by rw [← hW, ← hb]; exact heap_alloc_at _
    have hxw : Ext [] w5 W := by rw [← hW]; exact (Ext.refl [] w5).alloc _
    simp only [hW, hb]
    have HX := Lib.hid (HX.out.trans hxw)
    have hck : ∀ k, k < 4 → ∃ X : ByteArray, (∀ A, Ext [] W A → A.cell? ⟨b, k, none⟩ = some (.string X)) ∧ runV X s.size = .tuple #[.string s, .int .i64 (X.size : Nat), .int .i64 0] ∧ X.size ≤ 1048576 ∧ P3.size ≤ X.size := fun k hk => by
      match k, hk with
      | 0, _ => exact ⟨P0, fun A hx => cellOf (hx.keep hbk (by simp)) 0, HR.out.1, z0, y0⟩
      | 1, _ => exact ⟨P1, fun A hx => cellOf (hx.keep hbk (by simp)) 1, HR.out.2.1, z1, y1⟩
      | 2, _ => exact ⟨P2, fun A hx => cellOf (hx.keep hbk (by simp)) 2, HR.out.2.2.1, z2, y2⟩
      | 3, _ => exact ⟨P3, fun A hx => cellOf (hx.keep hbk (by simp)) 3, HR.out.2.2.2, by omega, Nat.le_refl _⟩
    have HCK := Lib.hid hck
    have HBK := Lib.hid hbk
    clear hW hb hbk hxw hck z0 z1 z2 y0 y1 y2
    go_wp2_with fail
    go_loopg [4] 4 (fun g iv wr => ∃ k : Nat, g + k = 4 ∧ iv = .int .i64 k ∧ Ext [] W wr)
    case atStart => exact ⟨0, by omega, rfl, Ext.refl _ _⟩
    case round =>
      obtain ⟨k, hgk, rfl, hx⟩ := hrel
      have HE := Lib.hid hx
      clear hx
      by_cases hlt : k < 4
      · obtain ⟨g, rfl⟩ : ∃ g, gk = g + 1 := ⟨gk - 1, by omega⟩
        have hkz : (k : Int) < 4 := by omega
        obtain ⟨X, hc, hr, hz, hy⟩ := HCK.out k hlt
        have c0 := hc _ HE.out
        have HC := Lib.hid hc
        have HRX := Lib.hid hr
        clear hc hr
        go_wp2_with fail
        refine (drun_walk X s.size wr hz (by omega)).mono ?_
        rw [HRX.out]
        rintro e w6 ⟨rfl, hx⟩
        have HE := Lib.hid (HE.out.trans hx)
        clear hx c0
        have c1 : ∀ y : Ex w6, y.w.cell? ⟨b, k, none⟩ = some (.string X) := fun y => HC.out _ (HE.out.trans y.ext)
        have c2 : ∀ y : Ex w6, y.w.cell? ⟨b, 3, none⟩ = some (.string P3) := fun y => cellOf ((HE.out.trans y.ext).keep HBK.out (by simp)) 3
        have n0 : ¬ ((X.size : Nat) : Int) < ((P3.size : Nat) : Int) := by omega
        go_wp2_with fail
        refine wp_region_ext (by kernel_rfl) (by kernel_rfl) ?_
        repeat (go_big_quiet_step (fail))
        refine wpQuiet_nil ?_
        rintro _ ⟨y, rfl⟩
        have HE := Lib.hid (HE.out.trans y.ext)
        go_wp2_with fail
        go_roundg g
        case measure => omega
        case rel => exact ⟨k + 1, by omega, by go_num, HE.out⟩
      · obtain rfl : k = 4 := by omega
        have c0 : ∀ y : Ex wr, y.w.cell? ⟨b, 0, none⟩ = some (.string P0) := fun y => cellOf ((HE.out.trans y.ext).keep HBK.out (by simp)) 0
        have c1 : ∀ y : Ex wr, y.w.cell? ⟨b, 1, none⟩ = some (.string P1) := fun y => cellOf ((HE.out.trans y.ext).keep HBK.out (by simp)) 1
        have c2 : ∀ y : Ex wr, y.w.cell? ⟨b, 2, none⟩ = some (.string P2) := fun y => cellOf ((HE.out.trans y.ext).keep HBK.out (by simp)) 2
        have c3 : ∀ y : Ex wr, y.w.cell? ⟨b, 3, none⟩ = some (.string P3) := fun y => cellOf ((HE.out.trans y.ext).keep HBK.out (by simp)) 3
        have fin : ∀ (y : Ex wr), Ext [] w y.w := fun y => HX.out.trans (HE.out.trans y.ext)
        have FIN := Lib.hid fin
        have hb := HB.out
        clear fin HR HWK HCK
        by_cases e0 : P3 = P0
        · subst e0
          go_wp2_with fail
          refine wp_region_ext (by kernel_rfl) (by kernel_rfl) ?_
          repeat (go_big_quiet_step (fail))
          refine wpQuiet_nil ?_
          rintro _ ⟨y, rfl⟩
          have HZ := Lib.hid (FIN.out y)
          go_wp2_with fail
          go_ret
          exact ⟨rfl, HZ.out⟩
        · have d0 := str_ne e0
          by_cases e1 : P3 = P1
          · subst e1
            go_wp2_with fail
            refine wp_region_ext (by kernel_rfl) (by kernel_rfl) ?_
            repeat (go_big_quiet_step (fail))
            refine wpQuiet_nil ?_
            rintro _ ⟨y, rfl⟩
            have HZ := Lib.hid (FIN.out y)
            go_wp2_with fail
            go_ret
            exact ⟨rfl, HZ.out⟩
          · have d1 := str_ne e1
            have e2 : P3 = P2 := (hb.resolve_left e0).resolve_left e1
            subst e2
            go_wp2_with fail
            refine wp_region_ext (by kernel_rfl) (by kernel_rfl) ?_
            repeat (go_big_quiet_step (fail))
            refine wpQuiet_nil ?_
            rintro _ ⟨y, rfl⟩
            have HZ := Lib.hid (FIN.out y)
            go_wp2_with fail
            go_ret
            exact ⟨rfl, HZ.out⟩
  · go_enter Tryz.func3, Tryz.ntmps3
    go_wp2_with fail
    refine (lives10 w).mono ?_
    rintro e w1 ⟨rfl, hx⟩
    have HX := Lib.hid hx
    clear hx
    go_wp2_with fail
    go_ret
    exact ⟨rfl, HX.out⟩
end Go.Proofs.YtapcfffmgdpmcaaGreat.De
