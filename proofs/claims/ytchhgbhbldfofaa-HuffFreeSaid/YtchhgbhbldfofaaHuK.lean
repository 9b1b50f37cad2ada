/-
  huff.Lens walked.
-/
import Derived.Test.YtchhgbhbldfofaaHuJ
namespace Go.Proofs.Ytchhgbhbldfofaa.Hu
open Go.RowKit

def halfL (l : List Int) : List Int := l.map fun n => (n + 1) / 2
def okB (m : Int) (f : List Int) : Bool := decide (f.length = 0 ∨ maxL (deepN f) ≤ m)
def lensF : Nat → Int → List Int → List Int
  | 0, _, f => deepN f
  | k + 1, m, f => if okB m f = true then deepN f else lensF k m (halfL f)
def fitB : Nat → Int → List Int → Bool
  | 0, m, f => okB m f
  | k + 1, m, f => okB m f || fitB k m (halfL f)
def someN (l : List Int) : Nat := l.countP fun x => decide (0 < x)
def lensErr (l : List Int) (m : Int) : Bool := (l.any fun x => decide (x < 0 ∨ 1099511627776 < x)) || decide (288 < l.length ∨ m < 1 ∨ 15 < m ∨ ((2 ^ m.toNat : Nat) : Int) < (someN l : Int))
theorem deepN_len (l : List Int) : (deepN l).length = l.length := by
  unfold deepN
  split
  · rw [List.length_set, zers_len]
  · generalize mrgF _ _ _ = L
    cases L with
    | nil => exact zers_len _
    | cons x L => rw [topD, setD_len, zers_len]
theorem lensF_len : ∀ k m f, (lensF k m f).length = f.length
  | 0, m, f => deepN_len f
  | k + 1, m, f => by
    rw [lensF]
    split
    · exact deepN_len f
    · rw [lensF_len k m]; simp [halfL]
theorem someN_snoc (l : List Int) (x : Int) : someN (l ++ [x]) = someN l + if 0 < x then 1 else 0 := by
  unfold someN
  rw [List.countP_append, List.countP_singleton]
  by_cases h : 0 < x <;> simp [h]
theorem someN_le (l : List Int) : someN l ≤ l.length := List.countP_le_length
theorem lensErr_false {l : List Int} {m : Int} (h : lensErr l m = false) : (∀ x ∈ l, 0 ≤ x ∧ x ≤ 1099511627776) ∧ l.length ≤ 288 ∧ 1 ≤ m ∧ m ≤ 15 ∧ someN l ≤ 2 ^ m.toNat := by
  unfold lensErr at h
  rw [Bool.or_eq_false_iff, List.any_eq_false] at h
  have h2 := of_decide_eq_false h.2
  refine ⟨fun x hx => ?_, by omega, by omega, by omega, by omega⟩
  have := h.1 x hx
  simp at this
  omega
def NewTwo (w : World) (l : List Int) (e : Ending) (w' : World) : Prop := ∃ v', e = .returned (.tuple #[v', .int .i64 0]) ∧ Ext [] w w' ∧ (oSl 3 1 v' l.length (l.map iz)).P w' ∧ ∀ k ∈ v'.ownBlock.toList, w.heap.size ≤ k
theorem half_rng {f : List Int} (h : ∀ c ∈ f, 0 ≤ c ∧ c ≤ 1099511627776) : ∀ c ∈ halfL f, 0 ≤ c ∧ c ≤ 1099511627776 := fun c hc => by
  obtain ⟨x, hx, rfl⟩ := List.mem_map.1 hc
  have := h x hx
  omega
set_option maxRecDepth 100000 in
set_option maxHeartbeats 16000000 in
theorem lens_ok (v : Value) (l : List Int) (m : Int) (K : Nat) (w : World) (hv : IntsArg w v l) (he : lensErr l m = false) (hfit : fitB K m l = true) :
    Calls Try.prog 16 #[v, .int .i64 m] w (NewTwo w (lensF K m l)) := by
  obtain ⟨hx, hl, hm1, hm15, hsome⟩ := lensErr_false he
  have HV := Lib.hid hv
  obtain ⟨hA, ao, cap, rfl, hcap, hcm, hnil⟩ := hv
  obtain ⟨aov, capv, hev, hc⟩ := hA
  injection hev with h1 _ h3
  subst h1 h3
  have hlz := lensF_len K m l
  obtain ⟨R, hR⟩ : ∃ R, lensF K m l = R := ⟨_, rfl⟩
  rw [hR] at hlz ⊢
  have HR := Lib.hid hR
  have HLZ := Lib.hid hlz
  have HFIT := Lib.hid hfit
  have HC := Lib.hid hc
  have HXX := Lib.hid hx
  obtain ⟨mm, rfl⟩ : ∃ mm : Nat, m = mm := ⟨m.toNat, by omega⟩
  rw [Int.toNat_natCast] at hsome
  obtain ⟨t, ht⟩ : ∃ t, 2 ^ mm = t := ⟨_, rfl⟩
  rw [ht] at hsome
  have ht9 : t ≤ 32768 := by rw [← ht]; exact Nat.pow_le_pow_right (n := 2) (by omega) (show mm ≤ 15 by omega)
  have hti : (2 : Int) ^ mm = (t : Int) := by rw [← ht]; push_cast; rfl
  have HSM := Lib.hid hsome
  have HSL := Lib.hid (someN_le l)
  have hl' : ¬ 288 < l.length := by omega
  have q1 : ¬ ((mm : Int) < 1) := by omega
  have q2 : ¬ ((15 : Int) < (mm : Int)) := by omega
  clear hx hc hR hlz hfit he hcap hcm hnil hsome ht
  go_enter Try.func16, Try.ntmps16
  go_wp2_with fail
  go_loopg [6, 15] l.length (fun g sv iv wr => ∃ k : Nat, g + k = l.length ∧ iv = .int .i64 k ∧ sv = .int .i64 (someN (l.take k) : Nat) ∧ w = wr)
  case atStart => exact ⟨0, by omega, rfl, by simp [someN], rfl⟩
  case round =>
    obtain ⟨k, hk, rfl, rfl, rfl⟩ := hrel
    by_cases hlt : k < l.length
    · obtain ⟨b, off, rfl, hcell⟩ := HC.out (by omega)
      obtain ⟨x, hck⟩ : ∃ x, l[k]? = some x := ⟨_, List.getElem?_eq_getElem hlt⟩
      have d0 := hcell k x hck
      have hxr := HXX.out x (List.mem_of_getElem? hck)
      have x1 : ¬ x < 0 := by omega
      have x2 : ¬ (1099511627776 : Int) < x := by omega
      have hs := someN_snoc (l.take k) x
      rw [← ints_take l k x hck] at hs
      have hs9 : someN (l.take k) ≤ 288 := by have := someN_le (l.take k); have := List.length_take_le k l; omega
      have HS := Lib.hid hs
      generalize someN (l.take k) = s at *
      clear hcell hck hs
      by_cases h0 : 0 < x
      · have h1 : 1 ≤ x := by omega
        go_wp2_with fail
        all_goals
          go_roundg (l.length - (k + 1))
          case measure => omega
          case rel => exact ⟨k + 1, by omega, by go_num, by (first | rw [HS.out, if_pos h0, show (s : Int) + x = ((s + 1 : Nat) : Int) from by omega] | rw [HS.out, if_pos h0, show (s : Int) + 1 = ((s + 1 : Nat) : Int) from by omega]), rfl⟩
      · obtain rfl : x = 0 := by omega
        go_wp2_with fail
        go_roundg (l.length - (k + 1))
        case measure => omega
        case rel => exact ⟨k + 1, by omega, by go_num, by rw [HS.out, if_neg (by omega)]; simp, rfl⟩
    · obtain rfl : k = l.length := by omega
      rw [List.take_length]
      have hsm := HSM.out
      have hsl := HSL.out
      generalize someN l = s at *
      have q3 : ¬ ((t : Int) < (s : Int)) := by omega
      clear HC
      go_wp2_with fail
      refine (clone_walk _ l w HV.out (by omega)).mono ?_
      rintro e w1 ⟨v1, rfl, hx1, hp1, hn1⟩
      obtain ⟨ao1, cap1, rfl⟩ := (IntsAt.of_own hp1).slice
      have HS := Lib.hid (((Sep.start w).new hx1 (oSl 3 1 (.slice ao1 l.length cap1) l.length (l.map iz)) hp1 hn1))
      clear hx1 hp1 hn1 hsm hsl HSM HSL q3
      go_wp2_with fail
      go_loopg [10] K (fun g _ wr => ∃ f : List Int, f.length = l.length ∧ (∀ c ∈ f, 0 ≤ c ∧ c ≤ 1099511627776) ∧ lensF g mm f = R ∧ fitB g mm f = true ∧ Sep w wr [oSl 3 1 (.slice ao1 l.length cap1) l.length (f.map iz)])
      case atStart => exact ⟨l, rfl, HXX.out, HR.out, HFIT.out, HS.out⟩
      case round =>
        clear HS HXX HR HFIT HV
        obtain ⟨f, hfl, hrg, hR, hfit, S⟩ := hrel
        have hown : wr.ownsRow 0 3 1 (.slice ao1 l.length cap1) l.length (f.map iz) := S.get 0 rfl
        rw [← hfl] at hown
        have hia := IntsAt.of_own hown
        rw [hfl] at hia
        have hdeep := deep_walk _ f wr hia (by omega) (fun c hc => (hrg c hc).2)
        have hdl := deepN_len f
        obtain ⟨D, hD⟩ : ∃ D, deepN f = D := ⟨_, rfl⟩
        have hokB : okB mm f = decide (f.length = 0 ∨ maxL D ≤ (mm : Int)) := by unfold okB; rw [hD]
        have hR1 : okB mm f = true → D = R := fun ho => by
          rw [← hD, ← hR]
          cases gk with
          | zero => rfl
          | succ g => rw [lensF, if_pos ho]
        have hR2 : okB mm f = false → ∃ g', gk = g' + 1 ∧ lensF g' mm (halfL f) = R ∧ fitB g' mm (halfL f) = true := fun ho => by
          cases gk with
          | zero => rw [fitB, ho] at hfit; cases hfit
          | succ g =>
            rw [lensF, if_neg (by rw [ho]; simp)] at hR
            rw [fitB, ho, Bool.false_or] at hfit
            exact ⟨g, rfl, hR, hfit⟩
        rw [hD] at hdeep hdl
        have HDEEP := Lib.hid hdeep
        have HS := Lib.hid S
        have HK := Lib.hid (⟨hfl, hrg, hR1, hR2, hokB, hdl⟩ : _ ∧ _ ∧ _ ∧ _ ∧ _ ∧ _)
        clear hdeep S hown hia hfl hrg hR1 hR2 hokB hdl hR hfit hD
        go_wp2_with fail
        refine HDEEP.out.mono ?_
        clear HDEEP
        rintro e w2 ⟨v2, rfl, hx2, hp2, hn2⟩
        have hp2' : w2.ownsRow 0 3 1 v2 D.length (D.map iz) := by rw [HK.out.2.2.2.2.2]; exact hp2
        have hI := IntsAt.of_own hp2'
        obtain ⟨ao2, cap2, rfl⟩ := hI.slice
        have hnw : ∀ k ∈ (Value.slice ao2 D.length cap2).ownBlock.toList, w.heap.size ≤ k := fun k hk => Nat.le_trans HS.out.ext.size (hn2 k hk)
        have HS := Lib.hid (HS.out.quiet hx2)
        have HP2 := Lib.hid (⟨hp2', hI, hnw⟩ : _ ∧ _ ∧ _)
        clear hnw
        clear hx2 hp2 hp2' hI hn2
        by_cases hz : D.length = 0
        · have hz1 : ((D.length : Int) == 0) = true := by simp [hz]
          have hDR := HK.out.2.2.1 (by rw [HK.out.2.2.2.2.1]; exact decide_eq_true (.inl (by rw [← HK.out.2.2.2.2.2]; exact hz)))
          subst hDR
          clear hz
          go_wp2_with fail
          exact bodyPost_ret (results_tmp2 rfl _ _ _) rfl ⟨_, rfl, HS.out.ext, HP2.out.1, HP2.out.2.2⟩
        · have hz1 : ((D.length : Int) == 0) = false := beq_eq_false_iff_ne.2 (by omega)
          have hz2 : 0 < D.length := by omega
          clear hz
          go_wp2_with fail
          refine (max_walk _ D w2 HP2.out.2.1 hz2 (by have := HK.out.2.2.2.2.2; have := HK.out.1; omega)).mono ?_
          rintro e w3 ⟨rfl, rfl⟩
          obtain ⟨M, hM⟩ : ∃ M, maxL D = M := ⟨_, rfl⟩
          have hok := HK.out.2.2.2.2.1
          rw [hM] at hok
          rw [hM]
          by_cases hMm : M ≤ (mm : Int)
          · have hDR := HK.out.2.2.1 (by rw [hok]; exact decide_eq_true (.inr hMm))
            subst hDR
            clear hok hM
            go_wp2_with fail
            exact bodyPost_ret (results_tmp2 rfl _ _ _) rfl ⟨_, rfl, HS.out.ext, HP2.out.1, HP2.out.2.2⟩
          · have hok2 : okB mm f = false := by
              rw [hok]
              refine decide_eq_false (fun h => ?_)
              rcases h with h | h
              · rw [← HK.out.2.2.2.2.2] at h; omega
              · exact hMm h
            obtain ⟨g', rfl, hR, hfit⟩ := HK.out.2.2.2.1 hok2
            have HRF := Lib.hid (⟨hR, hfit⟩ : _ ∧ _)
            have hMm' : (mm : Int) < M := by omega
            have HFN := Lib.hid (⟨HK.out.1, trivial⟩ : f.length = l.length ∧ True)
            clear hok hok2 hM hR hfit hMm
            have HI0 := Lib.hid (HS.out : Sep w w2 [oSl 3 1 (.slice ao1 l.length cap1) l.length ((halfL (f.take 0) ++ f.drop 0).map iz)])
            go_wp2_with fail
            go_loopg [63] l.length (fun g iv wr2 => ∃ k : Nat, g + k = l.length ∧ iv = .int .i64 k ∧ Sep w wr2 [oSl 3 1 (.slice ao1 l.length cap1) l.length ((halfL (f.take k) ++ f.drop k).map iz)])
            case atStart => exact ⟨0, by omega, rfl, HI0.out⟩
            case round =>
              clear HS HI0
              obtain ⟨k, hk, rfl, S⟩ := hrel
              by_cases hlt : k < l.length
              · have hkf : k < f.length := by have := HFN.out.1; omega
                obtain ⟨x, hx⟩ : ∃ x, f[k]? = some x := ⟨_, List.getElem?_eq_getElem hkf⟩
                obtain ⟨h1, h2⟩ := List.getElem?_eq_some_iff.1 hx
                have hxr := HK.out.2.1 x (List.mem_of_getElem? hx)
                have hdr : f.drop k = x :: f.drop (k + 1) := by rw [List.drop_eq_getElem_cons h1, h2]
                have htk : halfL (f.take (k + 1)) = halfL (f.take k) ++ [(x + 1) / 2] := by rw [ints_take f k x hx]; simp [halfL]
                have hlk : (halfL (f.take k)).length = k := by simp [halfL]; omega
                have hrow : wr.ownsRow 0 3 1 (.slice ao1 l.length cap1) l.length ((halfL (f.take k) ++ f.drop k).map iz) := S.get 0 rfl
                obtain ⟨g3, hg3⟩ : ∃ g3, ao1 = some ⟨g3, 0, none⟩ := by
                  rcases hrow.2 with ⟨_, h⟩ | ⟨g, cap, cs, h, _⟩
                  · omega
                  · injection h with h _ _; exact ⟨g, h⟩
                subst hg3
                have hat : ((halfL (f.take k) ++ f.drop k).map iz)[k]? = some (iz x) := by
                  rw [hdr, List.getElem?_map, List.getElem?_append_right (by omega), hlk, Nat.sub_self]; rfl
                have c0 : wr.cell? ⟨g3, k, none⟩ = some (iz x) := ownsRow_at hrow hat
                have f0 := ownsRow_free hrow k
                have hst := ownsRow_store (i := k) hrow (iz ((x + 1) / 2))
                rw [← List.map_set, hdr, List.set_append, if_neg (by omega), hlk, Nat.sub_self, List.set_cons_zero, List.append_cons, ← htk] at hst
                have S2 := S.upd 0 (oSl 3 1 (.slice (some ⟨g3, 0, none⟩) l.length cap1) l.length (List.map iz (halfL (f.take (k + 1)) ++ f.drop (k + 1)))) rfl ((Ext.refl _ wr).setCell ⟨g3, k, none⟩ (iz ((x + 1) / 2)) (.inl (by simp [oSl, Value.ownBlock]))) (Fr.refl _ _) hst
                have HS2 := Lib.hid S2
                have x0 : (0 : Int) ≤ x := hxr.1
                have x9 : x ≤ 1099511627776 := hxr.2
                clear S2 hst hrow hat hdr htk hlk hx h1 h2 hxr S hkf
                go_wp2_with fail
                go_roundg (l.length - (k + 1))
                case measure => omega
                case rel => exact ⟨k + 1, by omega, by go_num, HS2.out⟩
              · obtain rfl : k = l.length := by omega
                have hS : Sep w wr [oSl 3 1 (.slice ao1 l.length cap1) l.length ((halfL f).map iz)] := by
                  have h := S
                  rw [List.take_of_length_le (by have := HFN.out.1; omega), List.drop_eq_nil_of_le (by have := HFN.out.1; omega), List.append_nil] at h
                  exact h
                have HS := Lib.hid hS
                clear hS S
                go_wp2_with fail
                go_roundg g'
                case measure => omega
                case rel => exact ⟨halfL f, by simp [halfL]; exact HK.out.1, half_rng HK.out.2.1, HRF.out.1, HRF.out.2, HS.out⟩
end Go.Proofs.Ytchhgbhbldfofaa.Hu
