/-
  The statement HuffTable walked.
-/
import Derived.Test.YtchhgbhbldfofaaHwG
import Derived.Deep.RegionHeld3
namespace Go.Proofs.Ytchhgbhbldfofaa.Hu
open Go.RowKit Bt

theorem codes_16 (l : List Int) (hb : badL l = false) (hk : kra l ≤ 32768) : ∀ x ∈ codesN l, x < 65536 := fun x hx => by
  obtain ⟨i, hi⟩ := List.getElem?_of_mem hx
  have hil : i < l.length := by have := (List.getElem?_eq_some_iff.1 hi).1; rw [codesN, codesF_len] at this; exact this
  by_cases h0 : 0 < l[i]
  · have h1 := codesN_get l i _ (List.getElem?_eq_getElem hil) h0
    rw [hi] at h1
    have h2 := Option.some.inj h1
    have h3 := cnt_lt l i _ (List.getElem?_eq_getElem hil) h0
    have h5 := (bad_false hb).2 _ (List.getElem_mem hil)
    have h4 := nxN_le (cntF l) hk (l[i]).toNat (by omega)
    have h6 : 2 ^ (l[i]).toNat ≤ 2 ^ 15 := Nat.pow_le_pow_right (by omega) (by omega)
    omega
  · have h1 := codesN_at l i hil
    have hg : l.getD i 0 = l[i] := by rw [List.getD_eq_getElem?_getD, List.getElem?_eq_getElem hil]; rfl
    rw [hg, if_neg h0, List.getD_eq_getElem?_getD, hi] at h1
    simp at h1
    omega
theorem cbits_bin (c : Nat) : ∀ n, Bin (cbits c n)
  | 0 => fun x hx => by cases hx
  | n + 1 => fun x hx => by
    rw [cbits] at hx
    rcases List.mem_cons.1 hx with rfl | hx
    · omega
    · exact cbits_bin c n x hx
theorem sizeZ_15 (l : List Int) (h : ∀ x ∈ l, 0 ≤ x ∧ x ≤ 15) (s : Int) : 0 ≤ sizeZ l s ∧ sizeZ l s ≤ 15 := by
  unfold sizeZ
  split
  · omega
  · rw [List.getD_eq_getElem?_getD]
    cases hx : l[s.toNat]? with
    | none => simp
    | some x => exact h x (List.mem_of_getElem? hx)
theorem Bin.append9 {a b : List Nat} (h : Bin a) (h' : Bin b) : Bin (a ++ b) := fun x hx => by
  rcases List.mem_append.1 hx with hx | hx
  · exact h x hx
  · exact h' x hx
theorem rdD_pos (l : List Int) (bt : Nat → Nat) (N : Nat) : ∀ g k code p, p ≤ N → p ≤ (rdD l bt N g k code p).2.2 ∧ (rdD l bt N g k code p).2.2 ≤ N
  | 0, k, code, p, h => ⟨Nat.le_refl _, h⟩
  | g + 1, k, code, p, h => by
    rw [rdD]
    by_cases hp : p < N
    · rw [if_pos hp]
      split
      · exact ⟨Nat.le_succ p, hp⟩
      · have := rdD_pos l bt N g (k + 1) (2 * code + bt p) (p + 1) (by omega)
        exact ⟨by omega, this.2⟩
    · rw [if_neg hp]
      exact ⟨Nat.le_refl _, h⟩
set_option maxRecDepth 100000 in
set_option maxHeartbeats 16000000 in
theorem table_law (v0 v1 : Value) (s : ByteArray) (w : World) (h0 : ∃ l, IntsArg' w v0 l) (h1 : ∃ l, IntsArg' w v1 l) (_h2 : s.size ≤ maxLen) :
    Calls Try.prog 8 #[v0, v1, .string s] w fun e w' => e = .returned (.bool true) ∧ Ext [] w w' := by
  obtain ⟨l, hl, _⟩ := h0
  obtain ⟨y, hy, _⟩ := h1
  have HL := Lib.hid hl
  obtain ⟨_, ao, cap, rfl, _⟩ := hl
  obtain ⟨⟨_, _, hev2, hcy⟩, ao2, cap2, rfl, _⟩ := hy
  injection hev2 with e1 _ e3
  subst e1 e3
  have HCY := Lib.hid hcy
  clear hcy
  unfold maxLen at _h2
  go_enter Try.func8, Try.ntmps8
  go_wp2_with fail
  refine (lives07 w).mono ?_
  rintro e w1 ⟨rfl, hx⟩
  have HX := Lib.hid hx
  clear hx
  by_cases hl3 : 300 < l.length
  · have hl3' : (300 : Int) < (l.length : Int) := by omega
    go_wp2_with fail
    go_ret
    exact ⟨rfl, HX.out⟩
  have hl3' : ¬ (300 : Int) < (l.length : Int) := by omega
  by_cases hy3 : 300 < y.length
  · have hy3' : (300 : Int) < (y.length : Int) := by omega
    go_wp2_with fail
    go_ret
    exact ⟨rfl, HX.out⟩
  have hy3' : ¬ (300 : Int) < (y.length : Int) := by omega
  by_cases hs3 : 300 < s.size
  · have hs3' : (300 : Int) < (s.size : Int) := by omega
    go_wp2_with fail
    go_ret
    exact ⟨rfl, HX.out⟩
  have hs3' : ¬ (300 : Int) < (s.size : Int) := by omega
  by_cases he : codesE l = 0
  · obtain ⟨hb, hk⟩ := codesE_zero he
    have HG := Lib.hid (⟨he, hb, hk, codes_16 l hb hk, (bad_false hb).1, (bad_false hb).2⟩ : _ ∧ _ ∧ _ ∧ _ ∧ _ ∧ _)
    clear he hb hk hl3 hy3 hs3
    go_wp2_with fail
    refine (new_walk _ l w1 (HL.out.ext HX.out) HG.out.1).mono ?_
    rintro e w2 ⟨tb, F, rfl, hx, hp, hf⟩
    have HX2 := Lib.hid (HX.out.trans hx)
    have HS := Lib.hid (((Sep.start w).quiet HX.out).new hx (oTab tb F l) hp hf)
    clear hx hp hf
    go_wp2_with fail
    refine (rnew_walk _ l w2 (HL.out.ext HX2.out) HG.out.1).mono ?_
    rintro e w3 ⟨tb2, F2, rfl, hx, hp, hf⟩
    have HS := Lib.hid (HS.out.new hx (oDT tb2 F2 l) hp hf)
    clear hx hp hf HX2
    go_wp2_with fail
    refine (sWnew false HS.out).mono ?_
    rintro e w4 ⟨b1, rfl, S⟩
    have S2 := S.new ((Ext.refl _ w4).alloc (.cells #[.slice none 0 0] 56)) (oRw w4.heap.size [w4.heap.size] []) ⟨.slice none 0 0, heap_alloc_at _, World.ownsRow_nil _ _ _ _, rfl, by simp [Value.ownBlock]⟩ (fun k hk => by rw [List.mem_singleton.1 hk]; exact Nat.le_refl _)
    have HS := Lib.hid S2
    clear S S2
    go_wp2_with fail
    obtain ⟨b2, hb2⟩ : ∃ b2, w4.heap.size = b2 := ⟨_, rfl⟩
    obtain ⟨w5, hw5⟩ : ∃ w5, w4.alloc (.cells #[.slice none 0 0] 56) = w5 := ⟨_, rfl⟩
    rw [hb2, hw5] at HS
    simp only [hb2, hw5]
    clear hb2 hw5
    go_loopg [13] y.length (fun g iv wr => ∃ (i : Nat) (F3 F4 bl : List Nat), g + i = y.length ∧ iv = .int .i64 i ∧ Bin bl ∧ bl.length ≤ 15 * i ∧ Sep w wr [oRw b2 F4 bl, oW b1 F3 false bl, oDT tb2 F2 l, oTab tb F l])
    case atStart => exact ⟨0, _, _, [], by omega, rfl, (fun x hx => by cases hx), by simp, HS.out⟩
    case round =>
      clear HS
      obtain ⟨i, F3, F4, bl, hi, rfl, hB, hbl, S⟩ := hrel
      by_cases hlt : i < y.length
      · obtain ⟨yb, yo, rfl, hyc⟩ := HCY.out (by omega)
        obtain ⟨x, hxi⟩ : ∃ x, y[i]? = some x := ⟨_, List.getElem?_eq_getElem hlt⟩
        have C0 := Lib.hid (hyc i x hxi)
        have d0 := Ext.cell S.ext C0.out
        have hlt' : (i : Int) < (y.length : Int) := by omega
        have HSZ := Lib.hid (sizeZ_15 l HG.out.2.2.2.2.2 x)
        obtain ⟨ez, hez⟩ : ∃ ez : Int, (if sizeZ l x = 0 then (2 : Int) else 0) = ez := ⟨_, rfl⟩
        have HEZ := Lib.hid hez
        have HB := Lib.hid hB
        clear hyc hxi hez hB
        go_wp2_with fail
        have S := S.quiet (Ext.refl [] wr).drew
        go_region_held3 (fun w' => w'.cell? ⟨yb, yo + i, none⟩ = some (iz x))
          (first | go_keep | (exact Ext.cell S.ext C0.out))
          (first | (go_at_call 22; refine (sTWrite 3 1 (by decide) x S rfl rfl HG.out.2.2.2.2.1 HG.out.2.2.2.2.2 HG.out.2.2.2.1 (by omega)).mono ?_; clear S; rw [HEZ.out]; rintro e w6 ⟨rfl, F5, S⟩) | (go_at_call 28; refine (sDWrite 2 0 (by decide) x S rfl rfl HG.out.2.2.2.2.1 HG.out.2.2.2.2.2 HG.out.2.2.2.1 (by omega)).mono ?_; clear S; rw [HEZ.out]; rintro e w7 ⟨rfl, F6, S⟩) | (go_at_call 24; refine (size_walk tb F l x _ (S.get 3 rfl) (by omega)).mono ?_; rintro e w8 ⟨rfl, hx8⟩; have S := S.quiet hx8; clear hx8) | (go_at_call 29; refine (rsize_walk tb2 F2 l x _ (S.get 2 rfl) (by omega)).mono ?_; rintro e w9 ⟨rfl, hx9⟩; have S := S.quiet hx9; clear hx9))
        rename_i hHeld
        clear hHeld d0
        have hB2 : Bin (bl ++ cbits ((codesN l).getD x.toNat 0) (sizeZ l x).toNat) := Bin.append9 HB.out (cbits_bin _ _)
        have hbl2 : (bl ++ cbits ((codesN l).getD x.toNat 0) (sizeZ l x).toNat).length ≤ 15 * (i + 1) := by
          rw [List.length_append, cbits_len]
          have := HSZ.out
          omega
        change Sep w w9 [oRw b2 F6 (bl ++ cbits ((codesN l).getD x.toNat 0) (sizeZ l x).toNat), oW b1 F5 false (bl ++ cbits ((codesN l).getD x.toNat 0) (sizeZ l x).toNat), oDT tb2 F2 l, oTab tb F l] at S
        generalize bl ++ cbits ((codesN l).getD x.toNat 0) (sizeZ l x).toNat = bl2 at *
        have HS := Lib.hid (⟨hB2, hbl2, S⟩ : _ ∧ _ ∧ _)
        clear hB2 hbl2 S
        go_wp2_with fail
        go_roundg (y.length - (i + 1))
        case measure => omega
        case rel => exact ⟨i + 1, F5, F6, bl2, by omega, by go_num, HS.out.1, HS.out.2.1, HS.out.2.2⟩
      · obtain rfl : i = y.length := by omega
        have HS := Lib.hid S
        have HB := Lib.hid hB
        obtain ⟨T, hT⟩ : ∃ T, txt (packB false bl) = T := ⟨_, rfl⟩
        have HT := Lib.hid hT
        clear S hB hT
        go_wp2_with fail
        refine (sText 1 HS.out rfl).mono ?_
        rw [HT.out]
        rintro e w6 ⟨rfl, rfl⟩
        go_wp2_with fail
        refine (rftext_lo b2 F4 bl wr (by omega) HB.out (HS.out.get 0 rfl)).mono ?_
        rw [HT.out]
        rintro e w6 ⟨rfl, hx⟩
        have HS := Lib.hid (HS.out.quiet hx)
        clear hx HT
        go_wp2_with fail
        refine (sRnew s false HS.out).mono ?_
        rintro e w7 ⟨b3, rfl, S⟩
        have HS := Lib.hid S
        clear S
        go_wp2_with fail
        refine (rfnew_lo s w7 (by omega)).mono ?_
        rintro e w8 ⟨b4, F7, rfl, hR, hf, hx⟩
        have S := HS.out.new hx (oRf b4 F7 (allBits s false (8 * s.size)) 0) hR (fun k hk => by
          rcases hf k hk with h | h
          · cases h
          · exact h)
        have HS := Lib.hid S
        clear hR hf hx S
        go_wp2_with fail
        go_loopg [16] (8 * s.size + 1) (fun g iv wr => ∃ i p : Nat, g + i = 8 * s.size + 1 ∧ iv = .int .i64 i ∧ p ≤ 8 * s.size ∧ Sep w wr [oRf b4 F7 (allBits s false (8 * s.size)) p, oR b3 s p false, oRw b2 F4 bl, oW b1 F3 false bl, oDT tb2 F2 l, oTab tb F l])
        case atStart => exact ⟨0, 0, by omega, rfl, by omega, HS.out⟩
        case round =>
          clear HS
          obtain ⟨i, p, hi, rfl, hp, S⟩ := hrel
          have HS := Lib.hid S
          clear S
          by_cases hlt : i < 8 * s.size + 1
          · have hlt' : (i : Int) < 8 * (s.size : Int) + 1 := by omega
            have hps := rdD_pos l (bit s false) (8 * s.size) 15 1 0 p hp
            obtain ⟨R1, R2, R3, hR⟩ : ∃ R1 R2 R3, readN l (bit s false) (8 * s.size) p = (R1, R2, R3) := ⟨_, _, _, rfl⟩
            rw [← read_doc, hR] at hps
            have HR := Lib.hid (⟨hR, hps⟩ : _ ∧ _)
            clear hR hps
            go_wp2_with fail
            clear hlt'
            refine (sTRead 5 1 (by decide) HS.out rfl rfl HG.out.2.2.2.2.1 (by omega) hp).mono ?_
            rw [HR.out.1]
            rintro e w9 ⟨rfl, S⟩
            have HS := Lib.hid S
            clear S
            go_wp2_with fail
            refine (sDRead 4 0 (by decide) HS.out rfl rfl HG.out.2.2.2.2.1 (by omega) hp).mono ?_
            rw [HR.out.1]
            rintro e w10 ⟨rfl, S⟩
            change Sep w w10 [oRf b4 F7 (allBits s false (8 * s.size)) R3, oR b3 s R3 false, oRw b2 F4 bl, oW b1 F3 false bl, oDT tb2 F2 l, oTab tb F l] at S
            have HS := Lib.hid S
            obtain ⟨rv, rb, _⟩ : RfR w10 b4 F7 (allBits s false (8 * s.size)) R3 := S.get 0 rfl
            have hR3 : R3 ≤ 8 * s.size := HR.out.2.2
            have hL : ∀ x : Ex w10, x.w.cell? ⟨b4, 1, none⟩ = some (.int .i64 R3) := fun x => cellOf (x.heap rb) 1
            have hW : ∀ x : Ex w10, x.w.heap[b3]? = some (rdr s R3 false) := fun x => (oR b3 s R3 false).ok (S.get 1 rfl) x.ext (by simp)
            clear S rb HR
            go_wp2_with fail
            refine wp_region_ext (by kernel_rfl) (by kernel_rfl) ?_
            repeat (go_big_quiet_step (first | (go_at_call 33; refine Calls.ext_of (at_any b3 s R3 false _ (hW _)))))
            refine wpQuiet_nil ?_
            rintro _ ⟨x, rfl⟩
            clear hL hW
            have HS := Lib.hid (HS.out.quiet x.ext)
            go_wp2_with fail
            go_roundg (8 * s.size + 1 - (i + 1))
            case measure => omega
            case rel => exact ⟨i + 1, R3, by omega, by go_num, hR3, HS.out⟩
          · have hlt' : ¬ (i : Int) < 8 * (s.size : Int) + 1 := by omega
            go_wp2_with fail
            go_ret
            exact ⟨rfl, HS.out.ext⟩
  · have HE := Lib.hid he
    obtain ⟨c, hc⟩ : ∃ c, codesE l = c := ⟨_, rfl⟩
    have HC := Lib.hid hc
    clear he hc hl3 hy3 hs3
    go_wp2_with fail
    refine (new_err _ l w1 (HL.out.1.ext HX.out) (by omega) HE.out).mono ?_
    rw [HC.out]
    rintro e w2 ⟨rfl, hx⟩
    have HX := Lib.hid (HX.out.trans hx)
    clear hx
    go_wp2_with fail
    refine (rnew_err _ l w2 (HL.out.1.ext HX.out) (by omega) HE.out).mono ?_
    rw [HC.out]
    rintro e w3 ⟨rfl, hx⟩
    have HX := Lib.hid (HX.out.trans hx)
    clear hx HE HC
    go_wp2_with fail
    go_ret
    exact ⟨rfl, HX.out⟩
end Go.Proofs.Ytchhgbhbldfofaa.Hu
