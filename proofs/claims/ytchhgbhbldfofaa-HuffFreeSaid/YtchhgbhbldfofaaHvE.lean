/-
  The document's Lens (chapter 7) walked.
-/
import Derived.Test.YtchhgbhbldfofaaHvD
namespace Go.Proofs.Ytchhgbhbldfofaa.Hu
open Go.RowKit

def allLe (m : Int) (l : List Int) : Bool := l.all fun x => decide (x ≤ m)
theorem allLe_snoc (m : Int) (l : List Int) (x : Int) : allLe m (l ++ [x]) = (allLe m l && decide (x ≤ m)) := by simp [allLe]
theorem okB_all (m : Int) (f : List Int) : okB m f = allLe m (deepN f) := by
  rw [Bool.eq_iff_iff]
  unfold okB allLe
  rw [decide_eq_true_iff, List.all_eq_true]
  constructor
  · rintro (h | h) x hx
    · have : (deepN f).length = 0 := by rw [deepN_len]; exact h
      rw [List.eq_nil_of_length_eq_zero this] at hx
      cases hx
    · exact decide_eq_true (Int.le_trans (le_maxL _ _ hx) h)
  · intro h
    by_cases h0 : f.length = 0
    · exact .inl h0
    · exact .inr (maxL_le _ _ (by rw [deepN_len]; omega) (fun x hx => of_decide_eq_true (h x hx)))
set_option maxRecDepth 100000 in
set_option maxHeartbeats 16000000 in
theorem rlens_ok (v : Value) (l : List Int) (m : Int) (K : Nat) (w : World) (hv : IntsArg w v l) (he : lensErr l m = false) (hfit : fitB K m l = true) :
    Calls Try.prog 17 #[v, .int .i64 m] w (NewTwo w (lensF K m l)) := by
  obtain ⟨hx, hl, hm1, hm15, hsome⟩ := lensErr_false he
  obtain ⟨hA, ao, cap, rfl, hcap, hcm, hnil⟩ := hv
  have HAA := Lib.hid hA
  obtain ⟨aov, capv, hev, hc⟩ := hA
  injection hev with h1 _ h3
  subst h1 h3
  have hlz := lensF_len K m l
  obtain ⟨R, hR⟩ : ∃ R, lensF K m l = R := ⟨_, rfl⟩
  rw [hR] at hlz ⊢
  have HR := Lib.hid hR
  have HLZ := Lib.hid hlz
  have HFIT := Lib.hid hfit
  have HC := Lib.hid hc
  have HXX := Lib.hid hx
  have HNIL := Lib.hid (⟨hnil, hcap⟩ : _ ∧ _)
  obtain ⟨mm, rfl⟩ : ∃ mm : Nat, m = mm := ⟨m.toNat, by omega⟩
  rw [Int.toNat_natCast] at hsome
  obtain ⟨t, ht⟩ : ∃ t, 2 ^ mm = t := ⟨_, rfl⟩
  rw [ht] at hsome
  have ht9 : t ≤ 32768 := by rw [← ht]; exact Nat.pow_le_pow_right (n := 2) (by omega) (show mm ≤ 15 by omega)
  have hti : (2 : Int) ^ mm = (t : Int) := by rw [← ht]; push_cast; rfl
  have HSM := Lib.hid hsome
  have HSL := Lib.hid (someN_le l)
  have hl' : ¬ 288 < l.length := by omega
  have q1 : ¬ ((mm : Int) < 1) := by omega
  have q2 : ¬ ((15 : Int) < (mm : Int)) := by omega
  clear hx hc hR hlz hfit he hcap hcm hnil hsome ht
  go_enter Try.func17, Try.ntmps17
  go_wp2_with fail
  go_loopg [6, 7] l.length (fun g sv iv wr => ∃ k : Nat, g + k = l.length ∧ iv = .int .i64 k ∧ sv = .int .i64 (someN (l.take k) : Nat) ∧ w = wr)
  case atStart => exact ⟨0, by omega, rfl, by simp [someN], rfl⟩
  case round =>
    obtain ⟨k, hk, rfl, rfl, rfl⟩ := hrel
    by_cases hlt : k < l.length
    · obtain ⟨b, off, rfl, hcell⟩ := HC.out (by omega)
      obtain ⟨x, hck⟩ : ∃ x, l[k]? = some x := ⟨_, List.getElem?_eq_getElem hlt⟩
      have d0 := hcell k x hck
      have hxr := HXX.out x (List.mem_of_getElem? hck)
      have x1 : ¬ x < 0 := by omega
      have x2 : ¬ (1099511627776 : Int) < x := by omega
      have hs := someN_snoc (l.take k) x
      rw [← ints_take l k x hck] at hs
      have hs9 : someN (l.take k) ≤ 288 := by have := someN_le (l.take k); have := List.length_take_le k l; omega
      have HS := Lib.hid hs
      generalize someN (l.take k) = s at *
      clear hcell hck hs
      by_cases h0 : 0 < x
      · go_wp2_with fail
        go_roundg (l.length - (k + 1))
        case measure => omega
        case rel => exact ⟨k + 1, by omega, by go_num, by rw [HS.out, if_pos h0]; go_num, rfl⟩
      · go_wp2_with fail
        go_roundg (l.length - (k + 1))
        case measure => omega
        case rel => exact ⟨k + 1, by omega, by go_num, by rw [HS.out, if_neg (by omega)]; go_num, rfl⟩
    · obtain rfl : k = l.length := by omega
      rw [List.take_length]
      have hsm := HSM.out
      have hsl := HSL.out
      generalize someN l = s at *
      have q3 : ¬ ((t : Int) < (s : Int)) := by omega
      obtain ⟨v1, w1, hr, hx1, hp1, hn1⟩ := copy_ints w ao cap l HAA.out (by omega) HNIL.out.1 (fun h => by have := HNIL.out.1 h; have := HNIL.out.2; omega)
      have HRR := Lib.hid hr
      obtain ⟨ao1, cap1, rfl⟩ := (IntsAt.of_own hp1).slice
      have HS := Lib.hid (((Sep.start w).new hx1 (oSl 3 1 (.slice ao1 l.length cap1) l.length (l.map iz)) hp1 hn1))
      clear HC hx1 hp1 hn1 hr
      go_wp2_with (at_builtin; refine wpList_plain rfl (fun K9 hK9 => wp_append_run _ _ _ _ rfl rfl rfl (HRR.out _) (hK9 _ _ ?_)))
      clear hsm hsl HSM HSL q3 HRR
      go_loopg [9] K (fun g _ wr => ∃ f : List Int, f.length = l.length ∧ (∀ c ∈ f, 0 ≤ c ∧ c ≤ 1099511627776) ∧ lensF g mm f = R ∧ fitB g mm f = true ∧ Sep w wr [oSl 3 1 (.slice ao1 l.length cap1) l.length (f.map iz)])
      case atStart => exact ⟨l, rfl, HXX.out, HR.out, HFIT.out, HS.out⟩
      case round =>
        clear HS HXX HR HFIT HAA HNIL
        obtain ⟨f, hfl, hrg, hR, hfit, S⟩ := hrel
        have hown : wr.ownsRow 0 3 1 (.slice ao1 l.length cap1) l.length (f.map iz) := S.get 0 rfl
        rw [← hfl] at hown
        have hia := IntsAt.of_own hown
        rw [hfl] at hia
        have hdeep := rdeep_walk _ f wr hia (by omega) (fun c hc => (hrg c hc).2)
        have hdl := deepN_len f
        have hokB := okB_all mm f
        obtain ⟨D, hD⟩ : ∃ D, deepN f = D := ⟨_, rfl⟩
        rw [hD] at hokB
        have hR1 : okB mm f = true → D = R := fun ho => by
          rw [← hD, ← hR]
          cases gk with
          | zero => rfl
          | succ g => rw [lensF, if_pos ho]
        have hR2 : okB mm f = false → ∃ g', gk = g' + 1 ∧ lensF g' mm (halfL f) = R ∧ fitB g' mm (halfL f) = true := fun ho => by
          cases gk with
          | zero => rw [fitB, ho] at hfit; cases hfit
          | succ g =>
            rw [lensF, if_neg (by rw [ho]; simp)] at hR
            rw [fitB, ho, Bool.false_or] at hfit
            exact ⟨g, rfl, hR, hfit⟩
        rw [hD] at hdeep hdl
        rw [hokB] at hR1 hR2
        have HDEEP := Lib.hid hdeep
        have HS := Lib.hid S
        have HK := Lib.hid (⟨hfl, hrg, hR1, hR2, hdl⟩ : _ ∧ _ ∧ _ ∧ _ ∧ _)
        clear hdeep S hown hia hfl hrg hR1 hR2 hokB hdl hR hfit hD
        go_wp2_with fail
        refine HDEEP.out.mono ?_
        clear HDEEP
        rintro e w2 ⟨v2, rfl, hx2, hp2, hn2⟩
        have hp2' : w2.ownsRow 0 3 1 v2 D.length (D.map iz) := hp2
        have hI := IntsAt.of_own hp2'
        obtain ⟨ao2, cap2, rfl⟩ := hI.slice
        have hnw : ∀ k ∈ (Value.slice ao2 D.length cap2).ownBlock.toList, w.heap.size ≤ k := fun k hk => Nat.le_trans HS.out.ext.size (hn2 k hk)
        have HS := Lib.hid (HS.out.quiet hx2)
        have HP2 := Lib.hid (⟨hp2', hI, hnw⟩ : _ ∧ _ ∧ _)
        have hDl : D.length ≤ 1000 := by have h1 := HK.out.2.2.2.2; have h2 := HK.out.1; omega
        clear hnw
        clear hx2 hp2 hp2' hI hn2
        obtain ⟨G, hG⟩ : ∃ G, gk = G := ⟨_, rfl⟩
        subst hG
        go_wp2_with fail
        go_loopg [10, 11] D.length (fun g fv iv wr => ∃ k : Nat, g + k = D.length ∧ iv = .int .i64 k ∧ fv = .bool (allLe mm (D.take k)) ∧ w2 = wr)
        case atStart => exact ⟨0, by omega, rfl, rfl, rfl⟩
        case round =>
          obtain ⟨k, hk, rfl, rfl, rfl⟩ := hrel
          by_cases hlt : k < D.length
          · obtain ⟨_, _, hev2, hc2⟩ := HP2.out.2.1
            injection hev2 with h1 _ h3
            subst h1 h3
            obtain ⟨b, off, rfl, hcell⟩ := hc2 (by omega)
            obtain ⟨x, hck⟩ : ∃ x, D[k]? = some x := ⟨_, List.getElem?_eq_getElem hlt⟩
            have d0 := hcell k x hck
            have hs := allLe_snoc mm (D.take k) x
            rw [← ints_take D k x hck] at hs
            have HA := Lib.hid hs
            clear hcell hck hs hc2
            cases hb : allLe mm (D.take k)
            · rw [hb] at HA
              clear hb
              go_wp2_with fail
              go_roundg (D.length - (k + 1))
              case measure => omega
              case rel => exact ⟨k + 1, by omega, by go_num, by rw [HA.out]; rfl, rfl⟩
            · rw [hb] at HA
              clear hb
              go_wp2_with fail
              go_roundg (D.length - (k + 1))
              case measure => omega
              case rel => exact ⟨k + 1, by omega, by go_num, by rw [HA.out, Bool.true_and], rfl⟩
          · obtain rfl : k = D.length := by omega
            rw [List.take_length]
            cases hb : allLe mm D
            · obtain ⟨g', hgg, hR, hfit⟩ := HK.out.2.2.2.1 hb
              have HRF := Lib.hid (⟨hR, hfit⟩ : _ ∧ _)
              have HGG := Lib.hid hgg
              have HFN := Lib.hid (⟨HK.out.1, trivial⟩ : f.length = l.length ∧ True)
              clear hR hfit hb hgg
              have HI0 := Lib.hid (HS.out : Sep w w2 [oSl 3 1 (.slice ao1 l.length cap1) l.length ((halfL (f.take 0) ++ f.drop 0).map iz)])
              go_wp2_with fail
              go_loopg [12] l.length (fun g iv wr2 => ∃ k : Nat, g + k = l.length ∧ iv = .int .i64 k ∧ Sep w wr2 [oSl 3 1 (.slice ao1 l.length cap1) l.length ((halfL (f.take k) ++ f.drop k).map iz)])
              case atStart => exact ⟨0, by omega, rfl, HI0.out⟩
              case round =>
                clear HS HI0
                obtain ⟨k, hk, rfl, S⟩ := hrel
                by_cases hlt : k < l.length
                · have hkf : k < f.length := by have := HFN.out.1; omega
                  obtain ⟨x, hx⟩ : ∃ x, f[k]? = some x := ⟨_, List.getElem?_eq_getElem hkf⟩
                  obtain ⟨h1, h2⟩ := List.getElem?_eq_some_iff.1 hx
                  have hxr := HK.out.2.1 x (List.mem_of_getElem? hx)
                  have hdr : f.drop k = x :: f.drop (k + 1) := by rw [List.drop_eq_getElem_cons h1, h2]
                  have htk : halfL (f.take (k + 1)) = halfL (f.take k) ++ [(x + 1) / 2] := by rw [ints_take f k x hx]; simp [halfL]
                  have hlk : (halfL (f.take k)).length = k := by simp [halfL]; omega
                  have hrow : wr.ownsRow 0 3 1 (.slice ao1 l.length cap1) l.length ((halfL (f.take k) ++ f.drop k).map iz) := S.get 0 rfl
                  obtain ⟨g3, hg3⟩ : ∃ g3, ao1 = some ⟨g3, 0, none⟩ := by
                    rcases hrow.2 with ⟨_, h⟩ | ⟨g, cap, cs, h, _⟩
                    · omega
                    · injection h with h _ _; exact ⟨g, h⟩
                  subst hg3
                  have hat : ((halfL (f.take k) ++ f.drop k).map iz)[k]? = some (iz x) := by
                    rw [hdr, List.getElem?_map, List.getElem?_append_right (by omega), hlk, Nat.sub_self]; rfl
                  have c0 : wr.cell? ⟨g3, k, none⟩ = some (iz x) := ownsRow_at hrow hat
                  have f0 := ownsRow_free hrow k
                  have hst := ownsRow_store (i := k) hrow (iz ((x + 1) / 2))
                  rw [← List.map_set, hdr, List.set_append, if_neg (by omega), hlk, Nat.sub_self, List.set_cons_zero, List.append_cons, ← htk] at hst
                  have S2 := S.upd 0 (oSl 3 1 (.slice (some ⟨g3, 0, none⟩) l.length cap1) l.length (List.map iz (halfL (f.take (k + 1)) ++ f.drop (k + 1)))) rfl ((Ext.refl _ wr).setCell ⟨g3, k, none⟩ (iz ((x + 1) / 2)) (.inl (by simp [oSl, Value.ownBlock]))) (Fr.refl _ _) hst
                  have HS2 := Lib.hid S2
                  have x0 : (0 : Int) ≤ x := hxr.1
                  have x9 : x ≤ 1099511627776 := hxr.2
                  clear S2 hst hrow hat hdr htk hlk hx h1 h2 hxr S hkf
                  go_wp2_with fail
                  go_roundg (l.length - (k + 1))
                  case measure => omega
                  case rel => exact ⟨k + 1, by omega, by go_num, HS2.out⟩
                · obtain rfl : k = l.length := by omega
                  have hS : Sep w wr [oSl 3 1 (.slice ao1 l.length cap1) l.length ((halfL f).map iz)] := by
                    have h := S
                    rw [List.take_of_length_le (by have := HFN.out.1; omega), List.drop_eq_nil_of_le (by have := HFN.out.1; omega), List.append_nil] at h
                    exact h
                  have HS := Lib.hid hS
                  clear hS S
                  go_wp2_with fail
                  go_roundg g'
                  case measure => have := HGG.out; omega
                  case rel => exact ⟨halfL f, by simp [halfL]; exact HK.out.1, half_rng HK.out.2.1, HRF.out.1, HRF.out.2, HS.out⟩
            · have hDR := HK.out.2.2.1 hb
              subst hDR
              clear hb
              go_wp2_with fail
              exact bodyPost_ret (results_tmp2 rfl _ _ _) rfl ⟨_, rfl, HS.out.ext, HP2.out.1, HP2.out.2.2⟩
set_option maxRecDepth 100000 in
set_option maxHeartbeats 8000000 in
theorem rlens_err (v : Value) (l : List Int) (m : Int) (w : World) (hv : IntsArg w v l) (hl : l.length ≤ 1048576) (hm0 : -9223372036854775808 ≤ m) (hm9 : m ≤ 9223372036854775807) (he : lensErr l m = true) :
    Calls Try.prog 17 #[v, .int .i64 m] w fun e w' => e = .returned (.tuple #[.slice none 0 0, .int .i64 2]) ∧ Ext [] w w' := by
  obtain ⟨hA, ao, cap, rfl, hcap, hcm, hnil⟩ := hv
  obtain ⟨aov, capv, hev, hc⟩ := hA
  injection hev with h1 _ h3
  subst h1 h3
  have HC := Lib.hid hc
  clear hc hcap hcm hnil
  by_cases q0 : 288 < l.length
  · have q0' : (288 : Int) < (l.length : Int) := by omega
    clear he
    go_enter Try.func17, Try.ntmps17
    go_wp2_with fail
    exact bodyPost_ret (results_tmp2 rfl _ _ _) rfl ⟨rfl, Ext.refl _ _⟩
  have q0' : ¬ (288 : Int) < (l.length : Int) := by omega
  by_cases q1 : m < 1
  · clear he
    go_enter Try.func17, Try.ntmps17
    go_wp2_with fail
    exact bodyPost_ret (results_tmp2 rfl _ _ _) rfl ⟨rfl, Ext.refl _ _⟩
  by_cases q2 : 15 < m
  · clear he
    go_enter Try.func17, Try.ntmps17
    go_wp2_with fail
    exact bodyPost_ret (results_tmp2 rfl _ _ _) rfl ⟨rfl, Ext.refl _ _⟩
  obtain ⟨mm, rfl⟩ : ∃ mm : Nat, m = mm := ⟨m.toNat, by omega⟩
  obtain ⟨t, ht⟩ : ∃ t, 2 ^ mm = t := ⟨_, rfl⟩
  have ht9 : t ≤ 32768 := by rw [← ht]; exact Nat.pow_le_pow_right (n := 2) (by omega) (show mm ≤ 15 by omega)
  have hti : (2 : Int) ^ mm = (t : Int) := by rw [← ht]; push_cast; rfl
  unfold lensErr at he
  rw [Int.toNat_natCast, ht] at he
  have HE := Lib.hid (show ((l.drop 0).any fun x => decide (x < 0 ∨ 1099511627776 < x)) = true ∨ t < someN (l.take 0) + someN (l.drop 0) by
    rcases Bool.or_eq_true_iff.1 he with h | h
    · exact .inl h
    · have := of_decide_eq_true h
      exact .inr (by simp only [List.take_zero, List.drop_zero]; have : someN [] = 0 := rfl; omega))
  clear he ht
  go_enter Try.func17, Try.ntmps17
  go_wp2_with fail
  go_loopg [6, 7] l.length (fun g sv iv wr => ∃ k : Nat, g + k = l.length ∧ iv = .int .i64 k ∧ sv = .int .i64 (someN (l.take k) : Nat) ∧ (((l.drop k).any fun x => decide (x < 0 ∨ 1099511627776 < x)) = true ∨ t < someN (l.take k) + someN (l.drop k)) ∧ w = wr)
  case atStart => exact ⟨0, by omega, rfl, by simp [someN], HE.out, rfl⟩
  case round =>
    clear HE
    obtain ⟨k, hk, rfl, rfl, ha, rfl⟩ := hrel
    by_cases hlt : k < l.length
    · obtain ⟨b, off, rfl, hcell⟩ := HC.out (by omega)
      obtain ⟨x, hck⟩ : ∃ x, l[k]? = some x := ⟨_, List.getElem?_eq_getElem hlt⟩
      have d0 := hcell k x hck
      have hdr : l.drop k = x :: l.drop (k + 1) := by
        obtain ⟨h1, h2⟩ := List.getElem?_eq_some_iff.1 hck
        rw [List.drop_eq_getElem_cons h1, h2]
      have hs := someN_snoc (l.take k) x
      rw [← ints_take l k x hck] at hs
      have hs9 : someN (l.take k) ≤ 288 := by have := someN_le (l.take k); have := List.length_take_le k l; omega
      by_cases hx0 : x < 0
      · clear ha hs hdr hcell hck
        generalize someN (l.take k) = s at *
        go_wp2_with fail
        exact bodyPost_ret (results_tmp2 rfl _ _ _) rfl ⟨rfl, Ext.refl _ _⟩
      · by_cases hx9 : 1099511627776 < x
        · clear ha hs hdr hcell hck
          generalize someN (l.take k) = s at *
          go_wp2_with fail
          exact bodyPost_ret (results_tmp2 rfl _ _ _) rfl ⟨rfl, Ext.refl _ _⟩
        · have ha2 : (((l.drop (k + 1)).any fun x => decide (x < 0 ∨ 1099511627776 < x)) = true ∨ t < someN (l.take (k + 1)) + someN (l.drop (k + 1))) := by
            rcases ha with ha | ha
            · rw [hdr, List.any_cons, decide_eq_false (by omega), Bool.false_or] at ha
              exact .inl ha
            · refine .inr ?_
              rw [hdr] at ha
              rw [hs]
              have e : someN (x :: l.drop (k + 1)) = (if 0 < x then 1 else 0) + someN (l.drop (k + 1)) := by
                unfold someN
                rw [List.countP_cons]
                by_cases h : 0 < x <;> simp [h]
                omega
              rw [e] at ha
              omega
          have HA := Lib.hid (⟨ha2, hs⟩ : _ ∧ _)
          clear ha ha2 hs hdr hcell hck
          generalize someN (l.take k) = s at *
          by_cases h0 : 0 < x
          · go_wp2_with fail
            go_roundg (l.length - (k + 1))
            case measure => omega
            case rel => exact ⟨k + 1, by omega, by go_num, by rw [HA.out.2, if_pos h0]; go_num, HA.out.1, rfl⟩
          · go_wp2_with fail
            go_roundg (l.length - (k + 1))
            case measure => omega
            case rel => exact ⟨k + 1, by omega, by go_num, by rw [HA.out.2, if_neg (by omega)]; go_num, HA.out.1, rfl⟩
    · obtain rfl : k = l.length := by omega
      have hs9 : someN (l.take l.length) ≤ 288 := by have := someN_le (l.take l.length); have := List.length_take_le l.length l; omega
      have q3 : t < someN (l.take l.length) := by
        rcases ha with ha | ha
        · rw [List.drop_length] at ha; cases ha
        · rw [List.drop_length] at ha; have : someN [] = 0 := rfl; omega
      clear ha
      generalize someN (l.take l.length) = s at *
      have q3' : (t : Int) < (s : Int) := by omega
      go_wp2_with fail
      exact bodyPost_ret (results_tmp2 rfl _ _ _) rfl ⟨rfl, Ext.refl _ _⟩
end Go.Proofs.Ytchhgbhbldfofaa.Hu
