/-
  The statement HuffBack walked.
-/
import Derived.Test.YtchhgbhbldfofaaHwI
namespace Go.Proofs.Ytchhgbhbldfofaa.Hu
open Go.RowKit Bt

/-- the symbols that a statement's numbers stand for -/
def sy288 (y : List Int) : List Nat := y.map fun x => (x % 288).toNat
theorem sy288_at (y : List Int) (i : Nat) (x : Int) (h : y[i]? = some x) : (sy288 y)[i]? = some (x % 288).toNat := by
  unfold sy288
  rw [List.getElem?_map, h]
  rfl
theorem sy288_lt (y : List Int) : ∀ s ∈ sy288 y, s < 288 := fun s hs => by
  obtain ⟨x, _, rfl⟩ := List.mem_map.1 hs
  omega
theorem sy288_take (y : List Int) (i : Nat) : (sy288 y).take i = sy288 (y.take i) := by
  unfold sy288
  rw [List.map_take]
theorem take_snoc9 {α : Type} (l : List α) (i : Nat) (x : α) (h : l[i]? = some x) : l.take (i + 1) = l.take i ++ [x] := by
  rw [List.take_add_one, h]
  rfl
theorem mul_bd2 {x y : Int} (h1 : 0 ≤ x) (h2 : x ≤ 300) (h3 : 0 ≤ y) (h4 : y ≤ 15) : 0 ≤ x * y ∧ x * y ≤ 4500 :=
  ⟨Int.mul_nonneg h1 h3, Int.le_trans (Int.mul_le_mul h2 h4 h3 (by omega)) (by omega)⟩
/-- the first objects alone -/
theorem sepInit {w0 w : World} {l : List Ob} (h : Sep w0 w l) (n : Nat) : Sep w0 w (l.take n) :=
  ⟨h.ext, fun o ho => h.each o (List.mem_of_mem_take ho), fun o ho => h.base o (List.mem_of_mem_take ho), fun i j a b hi hj hij => by
    rw [List.getElem?_take] at hi hj
    split at hi
    · split at hj
      · exact h.apart i j a b hi hj hij
      · cases hj
    · cases hi⟩
set_option maxRecDepth 100000 in
set_option maxHeartbeats 16000000 in
theorem back_law (v0 : Value) (m0 : Int) (w : World) (h0 : ∃ l, IntsArg' w v0 l) (h1 : (Lit.int .i64 m0).wf = true) :
    Calls Try.prog 9 #[v0, .int .i64 m0] w fun e w' => e = .returned (.bool true) ∧ Ext [] w w' := by
  obtain ⟨i0, hif, hz0, hz1, hz2⟩ := info_parts infoInt7
  obtain ⟨y, hy, hyr⟩ := h0
  obtain ⟨⟨_, _, hev2, hcy⟩, ao, cap, rfl, _⟩ := hy
  injection hev2 with e1 _ e3
  subst e1 e3
  have HCY := Lib.hid (⟨hcy, hyr⟩ : _ ∧ _)
  have hm := Kt.wf_i64 h1
  have HM := Lib.hid hm
  clear hcy hyr h1 hm
  go_enter Try.func9, Try.ntmps9
  go_wp2_with fail
  refine (lives07 w).mono ?_
  rintro e w1 ⟨rfl, hx⟩
  have HX := Lib.hid hx
  clear hx
  by_cases hy3 : 300 < y.length
  · have hy3' : (300 : Int) < (y.length : Int) := by omega
    go_wp2_with fail
    go_ret
    exact ⟨rfl, HX.out⟩
  have hy3' : ¬ (300 : Int) < (y.length : Int) := by omega
  obtain ⟨wm, hmk, hown, hgrow⟩ := run_make_full (P := Try.prog) w1 0 22 3 i0 (.int .i64 0) 1 Try.underlying22 hif hz0 hz1 .i64 .i64 288 (by rw [hz2]; omega) (by unfold maxLen; omega) (by omega)
  have hx4 : Ext [] w1 wm := (Ext.refl [] w1).grown hgrow (fun k hk => by cases hk)
  have S := ((Sep.start w).quiet HX.out).new hx4 (oSl 3 1 (.slice (some ⟨w1.heap.size, 0, none⟩) 288 288) 288 ((fq []).map iz)) (by
    have hm : (madeCells (Value.int .i64 0).cells (288 * 1)).toList = (fq []).map iz := by
      rw [fq_nil, zers, List.map_replicate, Nat.mul_one]
      exact toList_madeCells_one _ _
    rw [← hm]; exact hown) (fun q hq => by simp [oSl, Value.ownBlock] at hq; omega)
  obtain ⟨q, hq⟩ : ∃ q, w1.heap.size = q := ⟨_, rfl⟩
  rw [hq] at hmk S
  have HS := Lib.hid S
  replace hmk : (Instr.makeSlice 22 (.int .i64 288) (.int .i64 288)).run Try.prog w1 = .ok (.slice (some ⟨q, 0, none⟩) 288 288) wm := hmk
  clear hx4 hown hgrow S hq hy3
  go_wp2_with fail
  clear hmk
  go_loopg [6] y.length (fun g iv wr => ∃ i : Nat, g + i = y.length ∧ iv = .int .i64 i ∧ Sep w wr [oSl 3 1 (.slice (some ⟨q, 0, none⟩) 288 288) 288 ((fq (sy288 (y.take i))).map iz)])
  case atStart => exact ⟨0, by omega, rfl, HS.out⟩
  case round =>
    clear HS
    obtain ⟨i, hi, rfl, S⟩ := hrel
    by_cases hlt : i < y.length
    · obtain ⟨yb, yo, rfl, hyc⟩ := HCY.out.1 (by omega)
      obtain ⟨x, hxi⟩ : ∃ x, y[i]? = some x := ⟨_, List.getElem?_eq_getElem hlt⟩
      have d0 := Ext.cell S.ext (hyc i x hxi)
      have hxr := HCY.out.2 x (List.mem_of_getElem? hxi)
      have hlt' : (i : Int) < (y.length : Int) := by omega
      have HXI := Lib.hid hxi
      have HS := Lib.hid S
      clear hyc hxi S
      go_wp2_with fail
      refine (Kt.pick_any x 288 wr (by omega) (by omega) hxr.1 hxr.2).mono ?_
      rintro e w2 ⟨rfl, rfl⟩
      obtain ⟨s, hs⟩ : ∃ s : Nat, x % 288 = s := ⟨(x % 288).toNat, by omega⟩
      rw [hs]
      have hs288 : s < 288 := by omega
      have hst' : (sy288 (y.take (i + 1))) = sy288 (y.take i) ++ [s] := by
        rw [take_snoc9 y i x HXI.out]
        unfold sy288
        rw [List.map_append, List.map_singleton, hs, Int.toNat_natCast]
      have hrow : wr.ownsRow 0 3 1 (.slice (some ⟨q, 0, none⟩) 288 288) 288 ((fq (sy288 (y.take i))).map iz) := HS.out.get 0 rfl
      obtain ⟨n, hn⟩ : ∃ n, (sy288 (y.take i)).count s = n := ⟨_, rfl⟩
      have hn3 : n ≤ 300 := by
        rw [← hn]
        have := List.count_le_length (a := s) (l := sy288 (y.take i))
        have h2 : (sy288 (y.take i)).length ≤ i := by unfold sy288; rw [List.length_map]; exact List.length_take_le _ _
        omega
      have o0 : wr.cell? ⟨q, s, none⟩ = some (iz (n : Nat)) := ownsRow_at hrow (by rw [List.getElem?_map, fq_at _ s hs288, hn]; rfl)
      have o1 := ownsRow_free hrow s
      have hst := ownsRow_store (i := s) hrow (iz ((n : Int) + 1))
      rw [← List.map_set, ← hn, fq_snoc, hn, ← hst'] at hst
      have S2 := HS.out.upd 0 (oSl 3 1 (.slice (some ⟨q, 0, none⟩) 288 288) 288 ((fq (sy288 (y.take (i + 1)))).map iz)) rfl ((Ext.refl _ wr).setCell ⟨q, s, none⟩ (iz ((n : Int) + 1)) (.inl (by simp [oSl, Value.ownBlock]))) (Fr.refl _ _) hst
      have HS2 := Lib.hid S2
      clear S2 hst hst' hrow hn hs hxr
      go_wp2_with fail
      go_roundg (y.length - (i + 1))
      case measure => omega
      case rel => exact ⟨i + 1, by omega, by go_num, HS2.out⟩
    · obtain rfl : i = y.length := by omega
      rw [List.take_length] at S
      have hm2 : 0 ≤ m0 % 7 ∧ m0 % 7 < 7 := ⟨Int.emod_nonneg _ (by omega), Int.emod_lt_of_pos _ (by omega)⟩
      have hLl : (sy288 y).length ≤ 300 := by unfold sy288; rw [List.length_map]; omega
      obtain ⟨f, hf⟩ : ∃ f, fq (sy288 y) = f := ⟨_, rfl⟩
      have herr := fun m h1 h2 => fq_err (sy288 y) hLl m h1 h2
      have hrng := fq_rng (sy288 y)
      rw [hf] at S herr hrng
      have hfl : f.length = 288 := by rw [← hf]; exact fq_len _
      have HF := Lib.hid (⟨hf, herr, hrng, hfl, hLl⟩ : _ ∧ _ ∧ _ ∧ _ ∧ _)
      have HS := Lib.hid S
      clear S herr hrng hf hfl hLl
      go_wp2_with fail
      refine (Kt.pick_any m0 7 wr (by omega) (by omega) HM.out.1 HM.out.2).mono ?_
      rintro e w2 ⟨rfl, rfl⟩
      obtain ⟨mr, hmr⟩ : ∃ mr, m0 % 7 = mr := ⟨_, rfl⟩
      rw [hmr] at hm2 ⊢
      clear hmr HM
      obtain ⟨m, hmm⟩ : ∃ m, 9 + mr = m := ⟨_, rfl⟩
      have hm9 : 9 ≤ m ∧ m ≤ 15 := by omega
      have HMM := Lib.hid hmm
      go_wp2_with fail
      clear hmm
      have hown : wr.ownsRow 0 3 1 (.slice (some ⟨q, 0, none⟩) 288 288) f.length (f.map iz) := by rw [HF.out.2.2.2.1]; exact HS.out.get 0 rfl
      have hfit := fit_all (HF.out.2.1 m hm9.1 hm9.2)
      have hLen := lengths_of f m hm9.2 (by rw [HF.out.2.2.2.1]; omega) (fun c hc => (HF.out.2.2.1 c hc).1) hfit
      refine (lens_ok _ f m 40 wr (IntsArg.of_own hown) (HF.out.2.1 m hm9.1 hm9.2) hfit).mono ?_
      obtain ⟨D, hD⟩ : ∃ D, lensF 40 m f = D := ⟨_, rfl⟩
      rw [hD] at hLen ⊢
      rintro e w3 ⟨vD, rfl, hx, hp, hn⟩
      have hDl : D.length = 288 := by rw [hLen.len]; exact HF.out.2.2.2.1
      have hp : w3.ownsRow 0 3 1 vD D.length (D.map iz) := hp
      obtain ⟨aoD, capD, rfl⟩ := own_slice hp
      have HS3 := Lib.hid (HS.out.new hx (oSl 3 1 (.slice aoD D.length capD) D.length (D.map iz)) hp hn)
      have HD := Lib.hid (⟨hLen, hDl⟩ : _ ∧ _)
      clear hown hfit hD hx hp hn hLen hDl HS
      go_wp2_with fail
      have hDo : w3.ownsRow 0 3 1 (.slice aoD D.length capD) D.length (D.map iz) := HS3.out.get 0 rfl
      refine (new_walk _ D w3 (IntsArg.of_own hDo) HD.out.1.codes).mono ?_
      rintro e w4 ⟨tb, F, rfl, hx, hp, hn⟩
      have HS := Lib.hid (HS3.out.new hx (oTab tb F D) hp hn)
      obtain ⟨gD, capD2, hgD⟩ := own_at hDo (by have := HD.out.2; omega)
      injection hgD with e1 _ e3
      subst e1 e3
      clear hDo hx hp hn HS3
      have j1 : ((D.length : Int) != 288) = false := by rw [HD.out.2]; rfl
      have j2 : (D.length != 288) = false := by rw [HD.out.2]; rfl
      go_wp2_with fail
      clear j1 j2
      go_loopg [11, 12, 13] 288 (fun g nv sv iv wr => ∃ (i : Nat) (n : Int), g + i = 288 ∧ iv = .int .i64 i ∧ nv = .int .i64 n ∧ sv = .int .i64 (someN (f.take i) : Nat) ∧ n = dot (f.take i) D 0 ∧ 0 ≤ n ∧ n ≤ 4500 * i ∧ Sep w wr [oTab tb F D, oSl 3 1 (.slice (some ⟨gD, 0, none⟩) D.length capD) D.length (D.map iz), oSl 3 1 (.slice (some ⟨q, 0, none⟩) 288 288) 288 (f.map iz)])
      case atStart => exact ⟨0, 0, by omega, rfl, rfl, by simp [someN], rfl, by omega, by omega, HS.out⟩
      case round =>
        clear HS
        obtain ⟨i, n, hi, rfl, rfl, rfl, hn, hn0, hn9, S⟩ := hrel
        by_cases hlt : i < 288
        · have hlt' : (i : Int) < 288 := by omega
          obtain ⟨c, hci⟩ : ∃ c, f[i]? = some c := ⟨_, List.getElem?_eq_getElem (by have := HF.out.2.2.2.1; omega)⟩
          obtain ⟨d, hdi⟩ : ∃ d, D[i]? = some d := ⟨_, List.getElem?_eq_getElem (by have := HD.out.2; omega)⟩
          have hcr := HF.out.2.2.1 c (List.mem_of_getElem? hci)
          have hdr := HD.out.1.rng d (List.mem_of_getElem? hdi)
          have hpos := HD.out.1.pos i (by have := HF.out.2.2.2.1; omega)
          rw [List.getD_eq_getElem?_getD, List.getD_eq_getElem?_getD, hci, hdi] at hpos
          simp only [Option.getD_some] at hpos
          have hc3 : c ≤ 300 := by have := HF.out.2.2.2.2; omega
          have hltD : (i : Int) < (D.length : Int) := by have := HD.out.2; omega
          have rD : wr.ownsRow 0 3 1 (.slice (some ⟨gD, 0, none⟩) D.length capD) D.length (D.map iz) := S.get 1 rfl
          have rF : wr.ownsRow 0 3 1 (.slice (some ⟨q, 0, none⟩) 288 288) 288 (f.map iz) := S.get 2 rfl
          have a0 : wr.cell? ⟨gD, i, none⟩ = some (iz d) := ownsRow_at rD (by rw [List.getElem?_map, hdi]; rfl)
          have b0 : wr.cell? ⟨q, i, none⟩ = some (iz c) := ownsRow_at rF (by rw [List.getElem?_map, hci]; rfl)
          have c0 : ∀ z : Ex wr, z.w.cell? _ = some _ := fun z => Ext.cell z.ext a0
          have f0 : ∀ z : Ex wr, z.w.cell? _ = some _ := fun z => Ext.cell z.ext b0
          have hsn := someN_snoc (f.take i) c
          rw [← ints_take f i c hci] at hsn
          have hs9 : someN (f.take i) ≤ 288 := by have := someN_le (f.take i); have := List.length_take_le i f; omega
          have hmb := mul_bd2 hcr.1 hc3 hdr.1 (by omega : d ≤ 15)
          have hdt := dot_take f D i c d hci hdi
          obtain ⟨p, hp⟩ : ∃ p, c * d = p := ⟨_, rfl⟩
          rw [hp] at hmb hdt
          have HQ := Lib.hid (⟨hn, hdt, hsn, S⟩ : _ ∧ _ ∧ _ ∧ _)
          clear hn hdt hsn S rD rF a0 b0 hci hdi
          generalize someN (f.take i) = sn at *
          have j3 : decide (m < d) = false := decide_eq_false (by omega)
          by_cases hc0 : 0 < c
          · have hd0 : 0 < d := hpos.2 hc0
            have j1 : decide (0 < c) = true := decide_eq_true hc0
            have j2 : decide (0 < d) = true := decide_eq_true hd0
            clear hpos
            go_wp2_with fail
            refine wp_region_ext (by kernel_rfl) (by kernel_rfl) ?_
            repeat (go_big_quiet_step (fail))
            refine wpQuiet_nil ?_
            rintro _ ⟨z, rfl⟩
            have HS := Lib.hid (HQ.out.2.2.2.quiet z.ext)
            have c1 : z.w.cell? ⟨q, i, none⟩ = some (iz c) := f0 z
            have c0' : ∀ z2 : Ex z.w, z2.w.cell? _ = some _ := fun z2 => c0 (Ex.mk z2.w (z.ext.trans z2.ext))
            have f0' : ∀ z2 : Ex z.w, z2.w.cell? _ = some _ := fun z2 => f0 (Ex.mk z2.w (z.ext.trans z2.ext))
            clear c0 f0
            go_wp2_with fail
            refine wp_region_ext (by kernel_rfl) (by kernel_rfl) ?_
            repeat (go_big_quiet_step (fail))
            refine wpQuiet_nil ?_
            rintro _ ⟨z2, rfl⟩
            have HS2 := Lib.hid (HS.out.quiet z2.ext)
            clear c0' f0' c1
            go_wp2_with fail
            go_roundg (288 - (i + 1))
            case measure => omega
            case rel => exact ⟨i + 1, n + p, by omega, by go_num, by go_num, by rw [HQ.out.2.2.1, if_pos hc0]; go_num, by rw [HQ.out.2.1, ← HQ.out.1], by omega, by omega, HS2.out⟩
          · have hd0 : ¬ 0 < d := fun h => hc0 (hpos.1 h)
            have j1 : decide (0 < c) = false := decide_eq_false hc0
            have j2 : decide (0 < d) = false := decide_eq_false hd0
            clear hpos
            go_wp2_with fail
            refine wp_region_ext (by kernel_rfl) (by kernel_rfl) ?_
            repeat (go_big_quiet_step (fail))
            refine wpQuiet_nil ?_
            rintro _ ⟨z, rfl⟩
            have HS := Lib.hid (HQ.out.2.2.2.quiet z.ext)
            have c1 : z.w.cell? ⟨q, i, none⟩ = some (iz c) := f0 z
            have c0' : ∀ z2 : Ex z.w, z2.w.cell? _ = some _ := fun z2 => c0 (Ex.mk z2.w (z.ext.trans z2.ext))
            have f0' : ∀ z2 : Ex z.w, z2.w.cell? _ = some _ := fun z2 => f0 (Ex.mk z2.w (z.ext.trans z2.ext))
            clear c0 f0
            go_wp2_with fail
            refine wp_region_ext (by kernel_rfl) (by kernel_rfl) ?_
            repeat (go_big_quiet_step (fail))
            refine wpQuiet_nil ?_
            rintro _ ⟨z2, rfl⟩
            have HS2 := Lib.hid (HS.out.quiet z2.ext)
            clear c0' f0' c1
            go_wp2_with fail
            go_roundg (288 - (i + 1))
            case measure => omega
            case rel => exact ⟨i + 1, n + p, by omega, by go_num, by go_num, by rw [HQ.out.2.2.1, if_neg (by omega)]; go_num, by rw [HQ.out.2.1, ← HQ.out.1], by omega, by omega, HS2.out⟩
        · obtain rfl : i = 288 := by omega
          rw [List.take_of_length_le (by have := HF.out.2.2.2.1; omega)] at hn ⊢
          have hBL := allB_dot D (fun y hy => (HD.out.1.rng y hy).1) _ (sy288 y) rfl (sy288_lt y)
          rw [HF.out.1, ← hn] at hBL
          obtain ⟨BL, hBLe⟩ : ∃ BL, allB D (sy288 y) = BL := ⟨_, rfl⟩
          rw [hBLe] at hBL
          have hst := HD.out.1.state
          obtain ⟨full, hfull⟩ : ∃ full, (stateN D).1 = full := ⟨_, rfl⟩
          have hs9 : someN f ≤ 288 := by have := someN_le f; have := HF.out.2.2.2.1; omega
          obtain ⟨sn, hsn⟩ : ∃ sn, someN f = sn := ⟨_, rfl⟩
          rw [hfull, hsn] at hst
          rw [hsn] at hs9 ⊢
          have HQ := Lib.hid (⟨hBLe, hst, hfull, hsn, allB_bin D (sy288 y)⟩ : _ ∧ _ ∧ _ ∧ _ ∧ _)
          have HS := Lib.hid S
          have hbl9 : BL.length ≤ 2000000 := by omega
          have HST := Lib.hid (state_walk (.slice (some ⟨gD, 0, none⟩) D.length capD) D wr (IntsAt.of_own (S.get 1 rfl)) (by have := HD.out.2; omega))
          obtain rfl : n = ((BL.length : Nat) : Int) := hBL.symm
          clear hn hst hfull hsn S hBLe hBL
          go_wp2_with fail
          refine HST.out.mono ?_
          rw [HQ.out.2.2.1, HQ.out.2.1.1]
          clear HST
          rintro e w5 ⟨rfl, hx⟩
          have HS := Lib.hid (HS.out.quiet hx)
          clear hx
          have key : ∀ (K : Prop), (1 < sn → full = 0 → K) → (¬ 1 < sn → K) → K := fun K h1 h2 => by
            by_cases h : 1 < sn
            · exact h1 h (HQ.out.2.1.2 (by omega))
            · exact h2 h
          refine key _ (fun hs1 hf0 => ?_) (fun hs1 => ?_)
          · subst hf0
            have hs1' : (1 : Int) < (sn : Int) := by omega
            clear key
            go_wp2_with fail
            refine (sWnew false HS.out).mono ?_
            rintro e w6 ⟨b1, rfl, S⟩
            have HS := Lib.hid S
            clear S
            go_wp2_with fail
            go_loopg [17] y.length (fun g iv wr => ∃ (i : Nat) (Fw : List Nat), g + i = y.length ∧ iv = .int .i64 i ∧ Sep w wr [oW b1 Fw false (allB D ((sy288 y).take i)), oTab tb F D, oSl 3 1 (.slice (some ⟨gD, 0, none⟩) D.length capD) D.length (D.map iz), oSl 3 1 (.slice (some ⟨q, 0, none⟩) 288 288) 288 (f.map iz)])
            case atStart => exact ⟨0, _, by omega, rfl, HS.out⟩
            case round =>
              clear HS
              obtain ⟨i, Fw, hi, rfl, S⟩ := hrel
              by_cases hlt : i < y.length
              · obtain ⟨yb, yo, rfl, hyc⟩ := HCY.out.1 (by omega)
                obtain ⟨x, hxi⟩ : ∃ x, y[i]? = some x := ⟨_, List.getElem?_eq_getElem hlt⟩
                have d0 := Ext.cell S.ext (hyc i x hxi)
                have hxr := HCY.out.2 x (List.mem_of_getElem? hxi)
                have hlt' : (i : Int) < (y.length : Int) := by omega
                obtain ⟨s, hs⟩ : ∃ s : Nat, x % 288 = s := ⟨(x % 288).toNat, by omega⟩
                have hs288 : s < 288 := by omega
                have hsi : (sy288 y)[i]? = some s := by rw [sy288_at y i x hxi, hs, Int.toNat_natCast]
                have hds : 0 < D.getD s 0 := by
                  have h1 := HD.out.1.pos s (by have := HF.out.2.2.2.1; omega)
                  rw [h1, List.getD_eq_getElem?_getD, ← HF.out.1, fq_at _ _ hs288]
                  have h2 : 0 < (sy288 y).count s := List.count_pos_iff.2 (List.mem_of_getElem? hsi)
                  simp only [Option.getD_some]
                  omega
                have hsz : sizeZ D s = D.getD s 0 := by unfold sizeZ; rw [if_neg (by have := HD.out.2; omega), Int.toNat_natCast]
                have htk : allB D ((sy288 y).take (i + 1)) = allB D ((sy288 y).take i) ++ cbits ((codesN D).getD ((s : Nat) : Int).toNat 0) (sizeZ D s).toNat := by
                  rw [List.take_add_one, hsi, Option.toList_some, allB_snoc, hsz, Int.toNat_natCast]
                  rfl
                have hbl : (allB D ((sy288 y).take i)).length < 2 ^ 38 := by
                  have h1 : (allB D (sy288 y)).length = (allB D ((sy288 y).take i)).length + (allB D ((sy288 y).drop i)).length := by
                    rw [← List.length_append]
                    congr 1
                    unfold allB
                    rw [← List.flatMap_append, List.take_append_drop]
                  rw [HQ.out.1] at h1
                  omega
                have HXI := Lib.hid (⟨hs, hds, hsz, htk, hbl⟩ : _ ∧ _ ∧ _ ∧ _ ∧ _)
                have HS := Lib.hid S
                clear hyc hxi S hs hs288 hsi hds hsz htk hbl
                go_wp2_with fail
                refine (Kt.pick_any x 288 wr (by omega) (by omega) hxr.1 hxr.2).mono ?_
                rintro e w2 ⟨rfl, rfl⟩
                rw [HXI.out.1]
                clear hxr
                go_wp2_with fail
                refine (sTWrite 1 0 (by decide) s HS.out rfl rfl (by have := HD.out.2; omega) (fun z hz => ⟨(HD.out.1.rng z hz).1, Int.le_trans (HD.out.1.rng z hz).2 hm9.2⟩) (codes_16 D HD.out.1.bad HD.out.1.kra) HXI.out.2.2.2.2).mono ?_
                rw [if_neg (by rw [HXI.out.2.2.1]; have := HXI.out.2.1; omega), ← HXI.out.2.2.2.1]
                rintro e w7 ⟨rfl, Fw2, S⟩
                have HS := Lib.hid S
                clear S HXI
                go_wp2_with fail
                go_roundg (y.length - (i + 1))
                case measure => omega
                case rel => exact ⟨i + 1, Fw2, by omega, by go_num, HS.out⟩
              · obtain rfl : i = y.length := by omega
                have hLlen : (sy288 y).length = y.length := by unfold sy288; rw [List.length_map]
                rw [List.take_of_length_le (by omega), HQ.out.1] at S
                have HS := Lib.hid S
                have HLL := Lib.hid hLlen
                clear S hLlen
                obtain ⟨T, hT⟩ : ∃ T, txt (packB false BL) = T := ⟨_, rfl⟩
                have hTs : T.size ≤ 2000000 := by rw [← hT, txt_size, packB_length]; omega
                have HT := Lib.hid hT
                clear hT
                go_wp2_with fail
                refine (sLen 0 HS.out rfl).mono ?_
                rintro e w8 ⟨rfl, rfl⟩
                go_wp2_with fail
                refine (sText 0 HS.out rfl).mono ?_
                rw [HT.out]
                rintro e w8 ⟨rfl, rfl⟩
                go_wp2_with fail
                refine (sRnew T false HS.out).mono ?_
                rintro e w9 ⟨b3, rfl, S⟩
                have HS := Lib.hid S
                clear S
                go_wp2_with fail
                go_loopg [19] y.length (fun g iv wr => ∃ i : Nat, g + i = y.length ∧ iv = .int .i64 i ∧ Sep w wr [oR b3 T (allB D ((sy288 y).take i)).length false, oW b1 Fw false BL, oTab tb F D])
                case atStart => exact ⟨0, by omega, rfl, sepInit HS.out 3⟩
                case round =>
                  clear HS
                  obtain ⟨i, hi, rfl, S⟩ := hrel
                  by_cases hlt : i < y.length
                  · obtain ⟨yb, yo, rfl, hyc⟩ := HCY.out.1 (by omega)
                    obtain ⟨x, hxi⟩ : ∃ x, y[i]? = some x := ⟨_, List.getElem?_eq_getElem hlt⟩
                    have hxr := HCY.out.2 x (List.mem_of_getElem? hxi)
                    have hlt' : (i : Int) < (y.length : Int) := by omega
                    obtain ⟨s, hs⟩ : ∃ s : Nat, x % 288 = s := ⟨(x % 288).toNat, by omega⟩
                    have hs288 : s < 288 := by omega
                    have hsi : (sy288 y)[i]? = some s := by rw [sy288_at y i x hxi, hs, Int.toNat_natCast]
                    have hds : 0 < D.getD s 0 := by
                      have h1 := HD.out.1.pos s (by have := HF.out.2.2.2.1; omega)
                      rw [h1, List.getD_eq_getElem?_getD, ← HF.out.1, fq_at _ _ hs288]
                      have h2 : 0 < (sy288 y).count s := List.count_pos_iff.2 (List.mem_of_getElem? hsi)
                      simp only [Option.getD_some]
                      omega
                    have hrd := back_read D HD.out.1.bad HD.out.1.kra (sy288 y) i s hsi hds
                    rw [HQ.out.1, HT.out] at hrd
                    have hp8 : (allB D ((sy288 y).take i)).length ≤ 8 * T.size := by
                      have h1 : (allB D (sy288 y)).length = (allB D ((sy288 y).take i)).length + (allB D ((sy288 y).drop i)).length := by
                        rw [← List.length_append]
                        congr 1
                        unfold allB
                        rw [← List.flatMap_append, List.take_append_drop]
                      rw [HQ.out.1] at h1
                      rw [← HT.out, txt_size, packB_length]
                      omega
                    have hcell := hyc i x hxi
                    have HXI := Lib.hid (⟨hs, hrd, hp8, hcell⟩ : _ ∧ _ ∧ _ ∧ _)
                    have HS := Lib.hid S
                    clear hyc hxi S hs hs288 hsi hds hrd hp8 hcell
                    go_wp2_with fail
                    refine (sTRead 2 0 (by decide) HS.out rfl rfl (by have := HD.out.2; omega) (by omega) HXI.out.2.2.1).mono ?_
                    rw [HXI.out.2.1]
                    rintro e w10 ⟨rfl, S⟩
                    have d0 := Ext.cell S.ext HXI.out.2.2.2
                    have HS := Lib.hid S
                    clear S
                    go_wp2_with fail
                    refine (Kt.pick_any x 288 w10 (by omega) (by omega) hxr.1 hxr.2).mono ?_
                    rintro e w2 ⟨rfl, rfl⟩
                    rw [HXI.out.1]
                    clear hxr d0
                    go_wp2_with fail
                    go_roundg (y.length - (i + 1))
                    case measure => omega
                    case rel => exact ⟨i + 1, by omega, by go_num, HS.out⟩
                  · obtain rfl : i = y.length := by omega
                    rw [List.take_of_length_le (by have := HLL.out; omega), HQ.out.1] at S
                    have HS := Lib.hid S
                    clear S
                    go_wp2_with fail
                    refine (sAt 0 HS.out rfl).mono ?_
                    rintro e w11 ⟨rfl, S⟩
                    have HS := Lib.hid S
                    clear S
                    go_wp2_with fail
                    go_ret
                    exact ⟨rfl, HS.out.ext⟩
          · have hs1' : ¬ (1 : Int) < (sn : Int) := by omega
            clear key
            go_wp2_with fail
            refine (sWnew false HS.out).mono ?_
            rintro e w6 ⟨b1, rfl, S⟩
            have HS := Lib.hid S
            clear S
            go_wp2_with fail
            go_loopg [17] y.length (fun g iv wr => ∃ (i : Nat) (Fw : List Nat), g + i = y.length ∧ iv = .int .i64 i ∧ Sep w wr [oW b1 Fw false (allB D ((sy288 y).take i)), oTab tb F D, oSl 3 1 (.slice (some ⟨gD, 0, none⟩) D.length capD) D.length (D.map iz), oSl 3 1 (.slice (some ⟨q, 0, none⟩) 288 288) 288 (f.map iz)])
            case atStart => exact ⟨0, _, by omega, rfl, HS.out⟩
            case round =>
              clear HS
              obtain ⟨i, Fw, hi, rfl, S⟩ := hrel
              by_cases hlt : i < y.length
              · obtain ⟨yb, yo, rfl, hyc⟩ := HCY.out.1 (by omega)
                obtain ⟨x, hxi⟩ : ∃ x, y[i]? = some x := ⟨_, List.getElem?_eq_getElem hlt⟩
                have d0 := Ext.cell S.ext (hyc i x hxi)
                have hxr := HCY.out.2 x (List.mem_of_getElem? hxi)
                have hlt' : (i : Int) < (y.length : Int) := by omega
                obtain ⟨s, hs⟩ : ∃ s : Nat, x % 288 = s := ⟨(x % 288).toNat, by omega⟩
                have hs288 : s < 288 := by omega
                have hsi : (sy288 y)[i]? = some s := by rw [sy288_at y i x hxi, hs, Int.toNat_natCast]
                have hds : 0 < D.getD s 0 := by
                  have h1 := HD.out.1.pos s (by have := HF.out.2.2.2.1; omega)
                  rw [h1, List.getD_eq_getElem?_getD, ← HF.out.1, fq_at _ _ hs288]
                  have h2 : 0 < (sy288 y).count s := List.count_pos_iff.2 (List.mem_of_getElem? hsi)
                  simp only [Option.getD_some]
                  omega
                have hsz : sizeZ D s = D.getD s 0 := by unfold sizeZ; rw [if_neg (by have := HD.out.2; omega), Int.toNat_natCast]
                have htk : allB D ((sy288 y).take (i + 1)) = allB D ((sy288 y).take i) ++ cbits ((codesN D).getD ((s : Nat) : Int).toNat 0) (sizeZ D s).toNat := by
                  rw [List.take_add_one, hsi, Option.toList_some, allB_snoc, hsz, Int.toNat_natCast]
                  rfl
                have hbl : (allB D ((sy288 y).take i)).length < 2 ^ 38 := by
                  have h1 : (allB D (sy288 y)).length = (allB D ((sy288 y).take i)).length + (allB D ((sy288 y).drop i)).length := by
                    rw [← List.length_append]
                    congr 1
                    unfold allB
                    rw [← List.flatMap_append, List.take_append_drop]
                  rw [HQ.out.1] at h1
                  omega
                have HXI := Lib.hid (⟨hs, hds, hsz, htk, hbl⟩ : _ ∧ _ ∧ _ ∧ _ ∧ _)
                have HS := Lib.hid S
                clear hyc hxi S hs hs288 hsi hds hsz htk hbl
                go_wp2_with fail
                refine (Kt.pick_any x 288 wr (by omega) (by omega) hxr.1 hxr.2).mono ?_
                rintro e w2 ⟨rfl, rfl⟩
                rw [HXI.out.1]
                clear hxr
                go_wp2_with fail
                refine (sTWrite 1 0 (by decide) s HS.out rfl rfl (by have := HD.out.2; omega) (fun z hz => ⟨(HD.out.1.rng z hz).1, Int.le_trans (HD.out.1.rng z hz).2 hm9.2⟩) (codes_16 D HD.out.1.bad HD.out.1.kra) HXI.out.2.2.2.2).mono ?_
                rw [if_neg (by rw [HXI.out.2.2.1]; have := HXI.out.2.1; omega), ← HXI.out.2.2.2.1]
                rintro e w7 ⟨rfl, Fw2, S⟩
                have HS := Lib.hid S
                clear S HXI
                go_wp2_with fail
                go_roundg (y.length - (i + 1))
                case measure => omega
                case rel => exact ⟨i + 1, Fw2, by omega, by go_num, HS.out⟩
              · obtain rfl : i = y.length := by omega
                have hLlen : (sy288 y).length = y.length := by unfold sy288; rw [List.length_map]
                rw [List.take_of_length_le (by omega), HQ.out.1] at S
                have HS := Lib.hid S
                have HLL := Lib.hid hLlen
                clear S hLlen
                obtain ⟨T, hT⟩ : ∃ T, txt (packB false BL) = T := ⟨_, rfl⟩
                have hTs : T.size ≤ 2000000 := by rw [← hT, txt_size, packB_length]; omega
                have HT := Lib.hid hT
                clear hT
                go_wp2_with fail
                refine (sLen 0 HS.out rfl).mono ?_
                rintro e w8 ⟨rfl, rfl⟩
                go_wp2_with fail
                refine (sText 0 HS.out rfl).mono ?_
                rw [HT.out]
                rintro e w8 ⟨rfl, rfl⟩
                go_wp2_with fail
                refine (sRnew T false HS.out).mono ?_
                rintro e w9 ⟨b3, rfl, S⟩
                have HS := Lib.hid S
                clear S
                go_wp2_with fail
                go_loopg [19] y.length (fun g iv wr => ∃ i : Nat, g + i = y.length ∧ iv = .int .i64 i ∧ Sep w wr [oR b3 T (allB D ((sy288 y).take i)).length false, oW b1 Fw false BL, oTab tb F D])
                case atStart => exact ⟨0, by omega, rfl, sepInit HS.out 3⟩
                case round =>
                  clear HS
                  obtain ⟨i, hi, rfl, S⟩ := hrel
                  by_cases hlt : i < y.length
                  · obtain ⟨yb, yo, rfl, hyc⟩ := HCY.out.1 (by omega)
                    obtain ⟨x, hxi⟩ : ∃ x, y[i]? = some x := ⟨_, List.getElem?_eq_getElem hlt⟩
                    have hxr := HCY.out.2 x (List.mem_of_getElem? hxi)
                    have hlt' : (i : Int) < (y.length : Int) := by omega
                    obtain ⟨s, hs⟩ : ∃ s : Nat, x % 288 = s := ⟨(x % 288).toNat, by omega⟩
                    have hs288 : s < 288 := by omega
                    have hsi : (sy288 y)[i]? = some s := by rw [sy288_at y i x hxi, hs, Int.toNat_natCast]
                    have hds : 0 < D.getD s 0 := by
                      have h1 := HD.out.1.pos s (by have := HF.out.2.2.2.1; omega)
                      rw [h1, List.getD_eq_getElem?_getD, ← HF.out.1, fq_at _ _ hs288]
                      have h2 : 0 < (sy288 y).count s := List.count_pos_iff.2 (List.mem_of_getElem? hsi)
                      simp only [Option.getD_some]
                      omega
                    have hrd := back_read D HD.out.1.bad HD.out.1.kra (sy288 y) i s hsi hds
                    rw [HQ.out.1, HT.out] at hrd
                    have hp8 : (allB D ((sy288 y).take i)).length ≤ 8 * T.size := by
                      have h1 : (allB D (sy288 y)).length = (allB D ((sy288 y).take i)).length + (allB D ((sy288 y).drop i)).length := by
                        rw [← List.length_append]
                        congr 1
                        unfold allB
                        rw [← List.flatMap_append, List.take_append_drop]
                      rw [HQ.out.1] at h1
                      rw [← HT.out, txt_size, packB_length]
                      omega
                    have hcell := hyc i x hxi
                    have HXI := Lib.hid (⟨hs, hrd, hp8, hcell⟩ : _ ∧ _ ∧ _ ∧ _)
                    have HS := Lib.hid S
                    clear hyc hxi S hs hs288 hsi hds hrd hp8 hcell
                    go_wp2_with fail
                    refine (sTRead 2 0 (by decide) HS.out rfl rfl (by have := HD.out.2; omega) (by omega) HXI.out.2.2.1).mono ?_
                    rw [HXI.out.2.1]
                    rintro e w10 ⟨rfl, S⟩
                    have d0 := Ext.cell S.ext HXI.out.2.2.2
                    have HS := Lib.hid S
                    clear S
                    go_wp2_with fail
                    refine (Kt.pick_any x 288 w10 (by omega) (by omega) hxr.1 hxr.2).mono ?_
                    rintro e w2 ⟨rfl, rfl⟩
                    rw [HXI.out.1]
                    clear hxr d0
                    go_wp2_with fail
                    go_roundg (y.length - (i + 1))
                    case measure => omega
                    case rel => exact ⟨i + 1, by omega, by go_num, HS.out⟩
                  · obtain rfl : i = y.length := by omega
                    rw [List.take_of_length_le (by have := HLL.out; omega), HQ.out.1] at S
                    have HS := Lib.hid S
                    clear S
                    go_wp2_with fail
                    refine (sAt 0 HS.out rfl).mono ?_
                    rintro e w11 ⟨rfl, S⟩
                    have HS := Lib.hid S
                    clear S
                    go_wp2_with fail
                    go_ret
                    exact ⟨rfl, HS.out.ext⟩
end Go.Proofs.Ytchhgbhbldfofaa.Hu
