/-
  inflate: the document's Run walked; the law InflateCalls.
-/
import Derived.Test.YtgjenpdppobpkaaIpH
namespace Go.Proofs.Ytgjenpdppobpkaa.If
open Go.RowKit Bt Hu

theorem dtabs_none {s : ByteArray} {t : St} (h : (dtabs s t).1 = none) : (dtabs s t).2.e ≠ 0 := by
  have hf : ∀ t : St, (dfail 4 t).e ≠ 0 := fun t => by
    unfold dfail
    split
    · simp
    · assumption
  unfold dtabs dtabA dtabB dtabC at h ⊢
  generalize (down s _ 0 (zers 19) _).1 = own at h ⊢
  generalize (down s _ 0 (zers 19) _).2 = t1 at h ⊢
  unfold dtabO at h ⊢
  by_cases h1 : t1.e ≠ 0
  · rw [if_pos h1]; exact h1
  · rw [if_neg h1] at h ⊢
    by_cases h2 : (stateN own).1 ≠ 0
    · rw [if_pos h2]; exact hf _
    · rw [if_neg h2] at h ⊢
      generalize (dlengths s own _ t1).1 = l at h ⊢
      generalize (dlengths s own _ t1).2 = t2 at h ⊢
      unfold dtabL at h ⊢
      by_cases h3 : t2.e ≠ 0
      · rw [if_pos h3]; exact h3
      · rw [if_neg h3] at h ⊢
        by_cases h4 : badT l ((dget s 5 t).1 + 257) = true
        · rw [if_pos h4]; exact hf _
        · rw [if_neg h4] at h
          cases h
theorem dblock_p {s : ByteArray} {B kind : Nat} {t : St} (hp : t.p ≤ 8 * s.size) (h0 : t.e = 0) (h : (dblock s B kind t).e = 0) : t.p ≤ (dblock s B kind t).p := by
  obtain ⟨p, out, e⟩ := t
  obtain rfl : e = 0 := h0
  have hr := rl_block (s := s) (B := B) kind p out hp
  cases h1 : blockR s B kind p out with
  | er e o =>
    rw [h1] at hr
    obtain ⟨a, b, _⟩ := hr
    rw [b] at h
    exact absurd h a
  | ok u q o =>
    rw [h1] at hr
    rw [hr.2]
    exact (blockR_ok h1).1
set_option maxRecDepth 100000 in
set_option maxHeartbeats 64000000 in
theorem drun_walk (s : ByteArray) (B : Nat) (w : World) (hs : s.size ≤ 1048576) (hB : B ≤ 1099511627776) :
    Calls Try.prog 20 #[.string s, .int .i64 (B : Int)] w fun e w' => e = .returned (runV s B) ∧ Ext [] w w' := by
  obtain ⟨V, hV⟩ : ∃ V, runV s B = V := ⟨_, rfl⟩
  rw [hV]
  rw [drun_runV] at hV
  obtain ⟨R, hR⟩ : ∃ R, drun s B = R := ⟨_, rfl⟩
  rw [hR] at hV
  unfold drun at hR
  have HR := Lib.hid hR
  have HV := Lib.hid hV
  clear hR hV
  go_enter Try.func20, Try.ntmps20
  go_wp2_with fail
  refine (rfnew_lo s w hs).mono ?_
  rintro e w1 ⟨rb, Fr', rfl, hrb, hfr, hx⟩
  have S1 := (Sep.start w).new hx (oRf rb Fr' (allBits s false (8 * s.size)) 0) hrb (fun k hk => (hfr k hk).elim (fun h => by cases h) id)
  have S2 := S1.new (w' := w1.alloc (.cells #[.pointer (some ⟨rb, 0, none⟩), .slice none 0 0, .int .i64 B, .int .i64 0] 72)) ((Ext.refl _ _).alloc _) (oDR w1.heap.size rb [w1.heap.size] B [] 0) ⟨.slice none 0 0, heap_alloc_at _, World.ownsRow_nil _ _ _ _, rfl, by simp [Value.ownBlock]⟩ (fun k hk => by rw [List.mem_singleton.1 hk]; exact Nat.le_refl _)
  have hsw : ∀ {a b : Ob} {W : World}, Sep w W [a, b] → Sep w W [b, a] := fun h => by
    refine ⟨h.ext, fun o ho => h.each o (by simp only [List.mem_cons, List.not_mem_nil, or_false] at ho ⊢; exact ho.symm), fun o ho => h.base o (by simp only [List.mem_cons, List.not_mem_nil, or_false] at ho ⊢; exact ho.symm), fun i j c d hi hj hij => ?_⟩
    match i, j with
    | 0, 0 => exact absurd rfl hij
    | 0, 1 => exact h.apart 1 0 c d hi hj (by decide)
    | 1, 0 => exact h.apart 0 1 c d hi hj (by decide)
    | 1, 1 => exact absurd rfl hij
    | 0, n + 2 => simp at hj
    | 1, n + 2 => simp at hj
    | n + 2, _ => simp at hi
  have hds : DS w (w1.alloc (.cells #[.pointer (some ⟨rb, 0, none⟩), .slice none 0 0, .int .i64 B, .int .i64 0] 72)) w1.heap.size rb Fr' s B ⟨0, [], 0⟩ [] := ⟨Nat.zero_le _, [w1.heap.size], hsw S2⟩
  have HS := Lib.hid hds
  clear S1 S2 hrb hfr hx hsw hds
  go_wp2_with fail
  obtain ⟨W, hW⟩ : ∃ W, w1.alloc (.cells #[.pointer (some ⟨rb, 0, none⟩), .slice none 0 0, .int .i64 B, .int .i64 0] 72) = W := ⟨_, rfl⟩
  obtain ⟨ub, hub⟩ : ∃ ub, w1.heap.size = ub := ⟨_, rfl⟩
  rw [hW, hub] at HS
  simp only [hW, hub]
  clear hW hub
  go_loopg [8] (8 * s.size + 2) (fun g lv wr => ∃ (l : Nat) (t : St), lv = .int .i64 l ∧ (l = 0 ∧ t.e = 0 → drunF s B (g - 1) t = R ∧ 8 * s.size + 1 < t.p + g) ∧ (¬ (l = 0 ∧ t.e = 0) → t = R) ∧ 1 ≤ g ∧ DS w wr ub rb Fr' s B t [])
  case atStart => exact ⟨0, ⟨0, [], 0⟩, rfl, fun _ => ⟨HR.out, by omega⟩, fun h => absurd ⟨rfl, rfl⟩ h, by omega, HS.out⟩
  case round =>
    clear HS HR
    obtain ⟨l, t, rfl, hA, hB2, hg1, S⟩ := hrel
    have hp := S.1
    obtain ⟨_, _, _, _, _, c3, _⟩ := S.cells
    have HS := Lib.hid S
    clear S
    by_cases hl : l = 0 ∧ t.e = 0
    · obtain ⟨hR, hg⟩ := hA hl
      obtain ⟨rfl, h0⟩ := hl
      obtain ⟨g, rfl⟩ : ∃ g, gk = g + 2 := ⟨gk - 2, by omega⟩
      rw [show g + 2 - 1 = g + 1 from rfl, drunF] at hR
      rw [h0] at c3
      have HR := Lib.hid hR
      clear hA hB2 hR
      go_wp2_with fail
      refine (d_get 1 (by omega) hs HS.out).mono ?_
      rintro e w2 ⟨rfl, S⟩
      have HS := Lib.hid S
      have hl := dget_lt2 (s := s) 1 t
      have hpg := dget_p s 1 t
      have hst : (dget s 1 t).2.e = 0 → (dget s 1 t).2.p = t.p + 1 := fun h => by
        unfold dget at h ⊢
        rw [if_neg (fun x => x h0)] at h ⊢
        split
        · rfl
        · rename_i hh
          rw [if_neg hh] at h
          exact absurd h (by simp)
      have hR := HR.out
      clear S HR c3
      generalize dget s 1 t = Y at *
      obtain ⟨l, t1⟩ := Y
      simp only at HS hl hpg hst hR ⊢
      unfold drunA at hR
      have HR := Lib.hid hR
      clear hR
      go_wp2_with fail
      refine (d_get 2 (by omega) hs HS.out).mono ?_
      rintro e w3 ⟨rfl, S⟩
      have HS := Lib.hid S
      have hk := dget_lt2 (s := s) 2 t1
      have hpg2 := dget_p s 2 t1
      have hge : (dget s 2 t1).2.e = 0 → t1.e = 0 := fun h => by
        refine Decidable.byContradiction fun h' => ?_
        rw [dget_dead h'] at h
        exact h' h
      have hR := HR.out
      clear S HR
      generalize dget s 2 t1 = Y at *
      obtain ⟨kind, t2⟩ := Y
      simp only at HS hk hpg2 hge hR ⊢
      have hp2 := HS.out.1
      obtain ⟨_, _, _, _, _, c3, _⟩ := HS.out.cells
      unfold drunB at hR
      by_cases h2 : t2.e = 0
      · rw [if_neg (fun h => h h2)] at hR
        rw [h2] at c3
        have h1 := hge h2
        have hq := hst h1
        have hg2 : 8 * s.size + 1 < t2.p + (g + 1) := by omega
        have hbp := dblock_p (B := B) (kind := kind) hp2 h2
        have HF := Lib.hid (show ∀ t5, dblock s B kind t2 = t5 → (l = 0 ∧ t5.e = 0 → drunF s B (g + 1 - 1) t5 = R ∧ 8 * s.size + 1 < t5.p + (g + 1)) ∧ (¬ (l = 0 ∧ t5.e = 0) → t5 = R) from fun t5 h5 => by
          rw [h5] at hR hbp
          refine ⟨fun hz => ?_, fun hz => ?_⟩
          · rw [if_pos hz] at hR
            exact ⟨hR, by have := hbp hz.2; omega⟩
          · rw [if_neg hz] at hR
            exact hR)
        clear hbp hR hst hge hpg hpg2 hg hq h1
        have hk4 : kind < 4 := hk
        by_cases k0 : kind = 0
        · subst k0
          have HE := Lib.hid (show dblock s B 0 t2 = dstored s B t2 from rfl)
          clear h2
          go_wp2_with fail
          refine (d_stored hs hB HS.out).mono ?_
          rintro e w4 ⟨rfl, S⟩
          have HS := Lib.hid S
          clear S c3
          go_wp2_with fail
          go_roundg (g + 1)
          case measure => omega
          case rel => exact ⟨l, _, rfl, (HF.out _ HE.out).1, (HF.out _ HE.out).2, by omega, HS.out⟩
        · have k0' : (kind == 0) = false := beq_eq_false_iff_ne.2 k0
          have k0'' : ((kind : Int) == 0) = false := beq_eq_false_iff_ne.2 (by omega)
          by_cases k1 : kind = 1
          · subst k1
            have HE := Lib.hid (show dblock s B 1 t2 = dcoded s B fixL fixD t2 from rfl)
            have hL : fixL.length = 288 := by decide +kernel
            have hDl : fixD.length = 30 := by decide +kernel
            have eL : codesE fixL = 0 := by decide +kernel
            have eD : codesE fixD = 0 := by decide +kernel
            have HZ := Lib.hid (⟨hL, hDl, eL, eD⟩ : _ ∧ _ ∧ _ ∧ _)
            clear h2 hL hDl eL eD
            go_wp2_with fail
            refine (dfixed_walk w3).mono ?_
            rintro e w4 ⟨a1, c1, a2, c2, rfl, hx, o1, o2, _, _⟩
            have HS := Lib.hid (HS.out.quiet hx)
            have HO := Lib.hid (⟨IntsArg.of_own o1, IntsArg.of_own o2⟩ : _ ∧ _)
            clear hx o1 o2 c3
            go_wp2_with fail
            refine (rnew_walk _ fixL w4 HO.out.1 HZ.out.2.2.1).mono ?_
            rintro e w5 ⟨tb1, Ft1, rfl, hx, hp1, hf1⟩
            have HS := Lib.hid (HS.out.new (oDT tb1 Ft1 fixL) hx hp1 hf1)
            have HO := Lib.hid (HO.out.2.ext hx)
            clear hx hp1 hf1
            go_wp2_with fail
            refine (rnew_walk _ fixD w5 HO.out HZ.out.2.2.2).mono ?_
            rintro e w6 ⟨tb2, Ft2, rfl, hx, hp1, hf1⟩
            have HS := Lib.hid (HS.out.new (oDT tb2 Ft2 fixD) hx hp1 hf1)
            clear hx hp1 hf1
            go_wp2_with fail
            refine (d_coded 1 0 (D1 := fixL) (D2 := fixD) rfl rfl (by have := HZ.out.1; omega) (by have := HZ.out.2.1; omega) hs hB HS.out).mono ?_
            rintro e w7 ⟨rfl, S⟩
            have HS := Lib.hid S.drop.drop
            clear S
            go_wp2_with fail
            go_roundg (g + 1)
            case measure => omega
            case rel => exact ⟨l, _, rfl, (HF.out _ HE.out).1, (HF.out _ HE.out).2, by omega, HS.out⟩
          · have k1' : (kind == 1) = false := beq_eq_false_iff_ne.2 k1
            have k1'' : ((kind : Int) == 1) = false := beq_eq_false_iff_ne.2 (by omega)
            by_cases k2 : kind = 2
            · subst k2
              have HE := Lib.hid (show dblock s B 2 t2 = ddyn s B (dtabs s t2) from rfl)
              have HT := Lib.hid (d_tables hs HS.out)
              have hno := dtabs_none (s := s) (t := t2)
              generalize dtabs s t2 = T at *
              obtain ⟨T1, t3⟩ := T
              clear h2
              cases T1 with
              | none =>
                have he3 := hno rfl
                have he3 : t3.e ≠ 0 := he3
                have HE3 := Lib.hid he3
                clear hno he3
                go_wp2_with fail
                refine HT.out.mono ?_
                rintro e w4 ⟨rfl, S⟩
                have HS := Lib.hid S
                clear S c3
                go_wp2_with fail
                refine (d_coded_dead (.pointer none) (.pointer none) HE3.out HS.out).mono ?_
                rintro e w5 ⟨rfl, S⟩
                have HS := Lib.hid S
                clear S
                go_wp2_with fail
                go_roundg (g + 1)
                case measure => omega
                case rel => exact ⟨l, t3, rfl, (HF.out _ HE.out).1, (HF.out _ HE.out).2, by omega, HS.out⟩
              | some T2 =>
                obtain ⟨D1, D2⟩ := T2
                clear hno
                go_wp2_with fail
                refine HT.out.mono ?_
                rintro e w4 ⟨tb1, F1, tb2, F2, rfl, hd1, hd2, S⟩
                have HS := Lib.hid S
                clear S c3
                go_wp2_with fail
                refine (d_coded 1 0 (D1 := D1) (D2 := D2) rfl rfl hd1 hd2 hs hB HS.out).mono ?_
                rintro e w5 ⟨rfl, S⟩
                have HS := Lib.hid S.drop.drop
                clear S
                go_wp2_with fail
                go_roundg (g + 1)
                case measure => omega
                case rel => exact ⟨l, _, rfl, (HF.out _ HE.out).1, (HF.out _ HE.out).2, by omega, HS.out⟩
            · have k2' : (kind == 2) = false := beq_eq_false_iff_ne.2 k2
              have k2'' : ((kind : Int) == 2) = false := beq_eq_false_iff_ne.2 (by omega)
              have HE := Lib.hid (show dblock s B kind t2 = dfail 4 t2 from by unfold dblock; rw [if_neg k0, if_neg k1, if_neg k2])
              clear h2 k0 k1 k2
              go_wp2_with fail
              refine (d_fail 4 HS.out).mono ?_
              rintro e w4 ⟨rfl, S⟩
              have HS := Lib.hid S
              clear S c3
              go_wp2_with fail
              go_roundg (g + 1)
              case measure => omega
              case rel => exact ⟨l, _, rfl, (HF.out _ HE.out).1, (HF.out _ HE.out).2, by omega, HS.out⟩
      · rw [if_pos h2] at hR
        subst hR
        have j0 : (t2.e != 0) = true := bne_iff_ne.2 h2
        have hV := HV.out
        rw [if_pos h2] at hV
        obtain ⟨ao, cap, d0, d1, d2, d3, d4, d5, hrow⟩ := HS.out.cells
        have hct : ∀ x : Ex w3, (convert 26 9 (.slice ao t2.out.length cap)).run Try.prog x.w = .ok (.string (txt t2.out)) x.w := fun x => run_row_text (row_keep x.ext hrow)
        have e1 : ∀ x : Ex w3, x.w.cell? ⟨ub, 1, none⟩ = some (.slice ao t2.out.length cap) := fun x => x.cell d1
        have e3 : ∀ x : Ex w3, x.w.cell? ⟨ub, 3, none⟩ = some (.int .i64 t2.e) := fun x => x.cell d3
        have HX := Lib.hid HS.out.ext
        generalize txt t2.out = TX at *
        generalize t2.e = te at *
        have HV2 := Lib.hid hV
        clear hV
        clear d1 d2 d4 d5 hrow h2 HS hst hge hpg hpg2
        go_wp2_with fail
        refine wp_region_ext (by kernel_rfl) (by kernel_rfl) ?_
        repeat (go_big_quiet_step (fail))
        refine wpQuiet_nil ?_
        rintro _ ⟨x, rfl⟩
        clear hct e1 e3
        go_wp2_with fail
        refine bodyPost_ret (results_tmp3 rfl _ _ _) rfl ⟨by rw [← HV2.out]; rfl, HX.out.trans x.ext⟩
    · have hRt := hB2 hl
      subst hRt
      clear hA hB2
      by_cases he : t.e = 0
      · have hl0 : l ≠ 0 := fun h => hl ⟨h, he⟩
        have j1 : ((l : Int) == 0) = false := beq_eq_false_iff_ne.2 (by omega)
        have j1' : (l == 0) = false := beq_eq_false_iff_ne.2 hl0
        have hV := HV.out
        rw [if_neg (fun h => h he)] at hV
        push_cast at hV
        rw [he] at c3
        obtain ⟨ao, cap, d0, d1, d2, d3, d4, d5, hrow⟩ := HS.out.cells
        obtain ⟨v9, hb9, _⟩ : RfR wr rb Fr' (allBits s false (8 * s.size)) t.p := HS.out.2.elim fun F S => S.get 0 rfl
        have d9 : wr.cell? ⟨rb, 1, none⟩ = some (.int .i64 t.p) := cellOf hb9 1
        have hct : ∀ x : Ex wr, (convert 26 9 (.slice ao t.out.length cap)).run Try.prog x.w = .ok (.string (txt t.out)) x.w := fun x => run_row_text (row_keep x.ext hrow)
        have e0 : ∀ x : Ex wr, x.w.cell? ⟨ub, 0, none⟩ = some (.pointer (some ⟨rb, 0, none⟩)) := fun x => x.cell d0
        have e1 : ∀ x : Ex wr, x.w.cell? ⟨ub, 1, none⟩ = some (.slice ao t.out.length cap) := fun x => x.cell d1
        have e9 : ∀ x : Ex wr, x.w.cell? ⟨rb, 1, none⟩ = some (.int .i64 t.p) := fun x => x.cell d9
        have HX := Lib.hid HS.out.ext
        generalize txt t.out = TX at *
        generalize t.p = tp at *
        have HV2 := Lib.hid hV
        clear hV
        clear d0 d1 d2 d3 d4 d5 d9 hrow he HS hl hl0 hb9
        go_wp2_with fail
        refine wp_region_ext (by kernel_rfl) (by kernel_rfl) ?_
        repeat (go_big_quiet_step (fail))
        refine wpQuiet_nil ?_
        rintro _ ⟨x, rfl⟩
        clear hct e0 e1 e9
        go_wp2_with fail
        refine bodyPost_ret (results_tmp3 rfl _ _ _) rfl ⟨by rw [← HV2.out]; rfl, HX.out.trans x.ext⟩
      · by_cases hl0 : l = 0
        · subst hl0
          have j2 : (t.e == 0) = false := beq_eq_false_iff_ne.2 he
          have j0 : (t.e != 0) = true := bne_iff_ne.2 he
          have hV := HV.out
          rw [if_pos he] at hV
          obtain ⟨ao, cap, d0, d1, d2, d3, d4, d5, hrow⟩ := HS.out.cells
          have hct : ∀ x : Ex wr, (convert 26 9 (.slice ao t.out.length cap)).run Try.prog x.w = .ok (.string (txt t.out)) x.w := fun x => run_row_text (row_keep x.ext hrow)
          have e1 : ∀ x : Ex wr, x.w.cell? ⟨ub, 1, none⟩ = some (.slice ao t.out.length cap) := fun x => x.cell d1
          have e3 : ∀ x : Ex wr, x.w.cell? ⟨ub, 3, none⟩ = some (.int .i64 t.e) := fun x => x.cell d3
          have HX := Lib.hid HS.out.ext
          generalize txt t.out = TX at *
          generalize t.e = te at *
          have HV2 := Lib.hid hV
          clear hV
          clear d1 d2 d4 d5 hrow he HS
          go_wp2_with fail
          refine wp_region_ext (by kernel_rfl) (by kernel_rfl) ?_
          repeat (go_big_quiet_step (fail))
          refine wpQuiet_nil ?_
          rintro _ ⟨x, rfl⟩
          clear hct e1 e3
          go_wp2_with fail
          refine bodyPost_ret (results_tmp3 rfl _ _ _) rfl ⟨by rw [← HV2.out]; rfl, HX.out.trans x.ext⟩
        · have j1 : ((l : Int) == 0) = false := beq_eq_false_iff_ne.2 (by omega)
          have j1' : (l == 0) = false := beq_eq_false_iff_ne.2 hl0
          clear hl0
          have j0 : (t.e != 0) = true := bne_iff_ne.2 he
          have hV := HV.out
          rw [if_pos he] at hV
          obtain ⟨ao, cap, d0, d1, d2, d3, d4, d5, hrow⟩ := HS.out.cells
          have hct : ∀ x : Ex wr, (convert 26 9 (.slice ao t.out.length cap)).run Try.prog x.w = .ok (.string (txt t.out)) x.w := fun x => run_row_text (row_keep x.ext hrow)
          have e1 : ∀ x : Ex wr, x.w.cell? ⟨ub, 1, none⟩ = some (.slice ao t.out.length cap) := fun x => x.cell d1
          have e3 : ∀ x : Ex wr, x.w.cell? ⟨ub, 3, none⟩ = some (.int .i64 t.e) := fun x => x.cell d3
          have HX := Lib.hid HS.out.ext
          generalize txt t.out = TX at *
          generalize t.e = te at *
          have HV2 := Lib.hid hV
          clear hV
          clear d1 d2 d4 d5 hrow he HS
          go_wp2_with fail
          refine wp_region_ext (by kernel_rfl) (by kernel_rfl) ?_
          repeat (go_big_quiet_step (fail))
          refine wpQuiet_nil ?_
          rintro _ ⟨x, rfl⟩
          clear hct e1 e3
          go_wp2_with fail
          refine bodyPost_ret (results_tmp3 rfl _ _ _) rfl ⟨by rw [← HV2.out]; rfl, HX.out.trans x.ext⟩
set_option maxRecDepth 100000 in
set_option maxHeartbeats 4000000 in
theorem drun_neg (s : ByteArray) (B : Int) (w : World) (hB : B < 0) :
    Calls Try.prog 20 #[.string s, .int .i64 B] w fun e w' => e = .returned (.tuple #[.string ⟨#[]⟩, .int .i64 0, .int .i64 2]) ∧ Ext [] w w' := by
  go_enter Try.func20, Try.ntmps20
  go_wp2_with fail
  exact bodyPost_ret (results_tmp3 rfl _ _ _) rfl ⟨rfl, Ext.refl _ _⟩
set_option maxRecDepth 100000 in
set_option maxHeartbeats 16000000 in
theorem calls_law8 (s : ByteArray) (budget a b : Int) (w : World) (_hs : s.size ≤ maxLen) (wB : (Lit.int .i64 budget).wf = true) (_wa : (Lit.int .i64 a).wf = true) (_wb : (Lit.int .i64 b).wf = true) :
    Calls Try.prog 7 #[.string s, .int .i64 budget, .int .i64 a, .int .i64 b] w fun e w' => e = .returned (.bool true) ∧ Ext [] w w' := by
  obtain ⟨B0, B1⟩ := Kt.wf_i64 wB
  clear wB
  by_cases hlen : s.size ≤ 600
  · have hlen' : (s.size : Int) ≤ 600 := by omega
    by_cases hbud : budget ≤ 20000
    · obtain ⟨TX, n, er, hr1, hr2⟩ : ∃ (TX : ByteArray) (n er : Int), (∀ w, Calls Try.prog 13 #[.string s, .int .i64 budget] w fun e w' => e = .returned (.tuple #[.string TX, .int .i64 n, .int .i64 er]) ∧ Ext [] w w') ∧ (∀ w, Calls Try.prog 20 #[.string s, .int .i64 budget] w fun e w' => e = .returned (.tuple #[.string TX, .int .i64 n, .int .i64 er]) ∧ Ext [] w w') := by
        by_cases hneg : budget < 0
        · exact ⟨_, _, _, fun w => run_neg s budget w hneg, fun w => drun_neg s budget w hneg⟩
        · obtain ⟨Bn, rfl⟩ : ∃ Bn : Nat, budget = Bn := ⟨budget.toNat, by omega⟩
          refine ⟨txt (outOf (runR s Bn)), (nOf (runR s Bn) : Nat), eOf (runR s Bn), fun w => ?_, fun w => ?_⟩
          · rw [← runV_parts]; exact run_walk s Bn w (by omega) (by omega)
          · rw [← runV_parts]; exact drun_walk s Bn w (by omega) (by omega)
      have hL : fixL.length = 288 := by decide +kernel
      have hDl : fixD.length = 30 := by decide +kernel
      have HR := Lib.hid (⟨hr1, hr2, hL, hDl⟩ : _ ∧ _ ∧ _ ∧ _)
      have H9 := Lib.hid (⟨fun w => length_walk a w, fun w => dlength_walk a w, fun w => distance_walk b w, fun w => ddistance_walk b w, fun w => lenof_walk a w, fun w => dlenof_walk a w, fun w => dstof_walk b w, fun w => ddstof_walk b w⟩ : _ ∧ _ ∧ _ ∧ _ ∧ _ ∧ _ ∧ _ ∧ _)
      generalize lenBZ a = P1 at *
      generalize lenXZ a = P2 at *
      generalize dstBZ b = P3 at *
      generalize dstXZ b = P4 at *
      generalize lenOfZ a = P5 at *
      generalize dstOfZ b = P6 at *
      clear hr1 hr2 hL hDl
      go_enter Try.func7, Try.ntmps7
      go_wp2_with fail
      refine (lives08 w).mono ?_
      rintro e w1 ⟨rfl, hx⟩
      have HX := Lib.hid hx
      clear hx
      go_wp2_with fail
      refine (HR.out.1 w1).mono ?_
      rintro e w2 ⟨rfl, hx⟩
      have HX := Lib.hid (HX.out.trans hx)
      clear hx
      go_wp2_with fail
      refine (HR.out.2.1 w2).mono ?_
      rintro e w3 ⟨rfl, hx⟩
      have HX := Lib.hid (HX.out.trans hx)
      clear hx
      go_wp2_with fail
      refine (H9.out.1 w3).mono ?_
      rintro e w4 ⟨rfl, rfl⟩
      go_wp2_with fail
      refine (H9.out.2.1 w3).mono ?_
      rintro e w4 ⟨rfl, rfl⟩
      go_wp2_with fail
      refine (H9.out.2.2.1 w3).mono ?_
      rintro e w4 ⟨rfl, rfl⟩
      go_wp2_with fail
      refine (H9.out.2.2.2.1 w3).mono ?_
      rintro e w4 ⟨rfl, rfl⟩
      go_wp2_with fail
      refine (fixed_walk w3).mono ?_
      rintro e w4 ⟨a1, k1, a2, k2, rfl, hx, o1, o2, _, _⟩
      have HX := Lib.hid (HX.out.trans hx)
      have HO := Lib.hid (⟨IntsAt.of_own o1, IntsAt.of_own o2⟩ : _ ∧ _)
      clear hx o1 o2
      go_wp2_with fail
      refine (dfixed_walk w4).mono ?_
      rintro e w5 ⟨a3, k3, a4, k4, rfl, hx, o1, o2, _, _⟩
      have HX := Lib.hid (HX.out.trans hx)
      have HO := Lib.hid (⟨HO.out.1.ext hx, HO.out.2.ext hx, IntsAt.of_own o1, IntsAt.of_own o2⟩ : _ ∧ _ ∧ _ ∧ _)
      clear hx o1 o2
      go_wp2_with fail
      refine (H9.out.2.2.2.2.1 w5).mono ?_
      rintro e w6 ⟨rfl, rfl⟩
      go_wp2_with fail
      refine (H9.out.2.2.2.2.2.1 w5).mono ?_
      rintro e w6 ⟨rfl, rfl⟩
      go_wp2_with fail
      refine (H9.out.2.2.2.2.2.2.1 w5).mono ?_
      rintro e w6 ⟨rfl, rfl⟩
      go_wp2_with fail
      refine (H9.out.2.2.2.2.2.2.2 w5).mono ?_
      rintro e w6 ⟨rfl, rfl⟩
      go_wp2_with fail
      refine (same_int _ _ fixL fixL w5 HO.out.1 HO.out.2.2.1 (by have := HR.out.2.2.1; omega) (by have := HR.out.2.2.1; omega)).mono ?_
      rw [decide_eq_true rfl]
      rintro e w6 ⟨rfl, hx⟩
      have HX := Lib.hid (HX.out.trans hx)
      have HO := Lib.hid (⟨HO.out.2.1.ext hx, HO.out.2.2.2.ext hx⟩ : _ ∧ _)
      clear hx
      go_wp2_with fail
      refine (same_int _ _ fixD fixD w6 HO.out.1 HO.out.2 (by have := HR.out.2.2.2; omega) (by have := HR.out.2.2.2; omega)).mono ?_
      rw [decide_eq_true rfl]
      rintro e w7 ⟨rfl, hx⟩
      have HX := Lib.hid (HX.out.trans hx)
      clear hx
      go_wp2_with fail
      go_ret
      exact ⟨rfl, HX.out⟩
    · have hbud' : (20000 : Int) < budget := by omega
      go_enter Try.func7, Try.ntmps7
      go_wp2_with fail
      refine (lives08 w).mono ?_
      rintro e w1 ⟨rfl, hx⟩
      go_wp2_with fail
      go_ret
      exact ⟨rfl, hx⟩
  · have hlen' : (600 : Int) < (s.size : Int) := by omega
    go_enter Try.func7, Try.ntmps7
    go_wp2_with fail
    refine (lives08 w).mono ?_
    rintro e w1 ⟨rfl, hx⟩
    go_wp2_with fail
    go_ret
    exact ⟨rfl, hx⟩
end Go.Proofs.Ytgjenpdppobpkaa.If
