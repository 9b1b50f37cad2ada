/-
  inflate: the document's lengths walked.
-/
import Derived.Test.YtgjenpdppobpkaaIpF
namespace Go.Proofs.Ytgjenpdppobpkaa.If
open Go.RowKit Bt Hu

theorem dlenF_stop (s : ByteArray) (D : List Int) (n g : Nat) (l : List Int) (t : St) (h : ¬ (l.length < n ∧ t.e = 0)) : dlenF s D n g l t = (l, t) := by
  cases g with
  | zero => rfl
  | succ g => exact if_neg h
section
variable {w0 w : World} {ub rb : Nat} {Fr' : List Nat} {s : ByteArray} {B : Nat} {t : St} {L : List Ob}
def PstL (w0 : World) (ub rb : Nat) (Fr' : List Nat) (s : ByteArray) (B : Nat) (L : List Ob) (R : List Int × St) (e : Ending) (w' : World) : Prop :=
  ∃ ao cap, e = .returned (.slice ao R.1.length cap) ∧ DS w0 w' ub rb Fr' s B R.2 (oIn ao cap R.1 :: L)
set_option maxRecDepth 100000 in
set_option maxHeartbeats 32000000 in
theorem d_lengths (i n : Nat) {tb : Nat} {Ft : List Nat} {D : List Int} (hT : L[i]? = some (oDT tb Ft D)) (hD : D.length ≤ 288) (hs : s.size ≤ 1048576) (hn : n ≤ 1000) (S : DS w0 w ub rb Fr' s B t L) :
    Calls Try.prog 57 #[.pointer (some ⟨ub, 0, none⟩), .pointer (some ⟨tb, 0, none⟩), .int .i64 n] w (PstL w0 ub rb Fr' s B L (dlengths s D n t)) := by
  have hp := S.1
  obtain ⟨i0, hif, hz0, hz1, hz2⟩ := info_parts infoInt7
  have HS := Lib.hid (S.new (oIn none 0 []) (Ext.refl _ _) (World.ownsRow_nil _ _ _ _) (by simp [oIn, oSl, Value.ownBlock]))
  have HT := Lib.hid (show ∀ ao cap l, (oIn ao cap l :: L)[i + 1]? = some (oDT tb Ft D) from fun _ _ _ => by simpa using hT)
  obtain ⟨R, hR⟩ : ∃ R, dlenF s D n (8 * s.size - t.p + 2) [] t = R := ⟨_, rfl⟩
  unfold dlengths
  rw [hR]
  have HR := Lib.hid hR
  clear S hT hR
  go_enter Try.func57, Try.ntmps57
  go_wp2_with fail
  go_loopg [7] (8 * s.size - t.p + 2) (fun g lv wr => ∃ (t : St) (ao : Option Addr) (cap : Nat) (l : List Int), (t.e = 0 → 8 * s.size < t.p + g) ∧ l.length ≤ n + 138 ∧ dlenF s D n g l t = R ∧ lv = .slice ao l.length cap ∧ DS w0 wr ub rb Fr' s B t (oIn ao cap l :: L))
  case atStart => exact ⟨t, none, 0, [], fun _ => by omega, by simp, HR.out, rfl, HS.out⟩
  case round =>
    clear HS HR hp
    obtain ⟨t, ao, cap, l, hg, hll, hR, rfl, S⟩ := hrel
    have hp := S.1
    obtain ⟨_, _, _, _, _, c3, _⟩ := S.cells
    have HS := Lib.hid S
    clear S
    by_cases hl : l.length < n
    · have hl' : (l.length : Int) < (n : Int) := by omega
      have HLL := Lib.hid (show l.length ≤ n by omega)
      by_cases h0 : t.e = 0
      · obtain ⟨g, rfl⟩ : ∃ g, gk = g + 1 := ⟨gk - 1, by have := hg h0; omega⟩
        have hg := hg h0
        rw [dlenF, if_pos ⟨hl, h0⟩] at hR
        rw [h0] at c3
        have HR := Lib.hid hR
        clear hR
        go_wp2_with fail
        refine (d_sym (i + 1) (HT.out _ _ _) hD hs HS.out).mono ?_
        rintro e w1 ⟨rfl, S⟩
        have HS := Lib.hid S
        have hx9 := dsym_lt (s := s) D t
        have hxz := dsym_zero (s := s) D t
        have hpp := dsym_p s D t hp
        have hR := HR.out
        clear S HR c3 hl'
        generalize dsym s D t = Y at *
        obtain ⟨x, t1⟩ := Y
        simp only at HS hx9 hxz hpp hR ⊢
        unfold dlenX at hR
        have hx8 : x < 288 := by omega
        have hp1 := HS.out.1
        clear hx9
        by_cases q16 : x = 16
        · rw [if_pos q16] at hR
          have he1 : t1.e = 0 := by
            refine Decidable.byContradiction fun h => ?_
            have := hxz h
            omega
          subst q16
          obtain ⟨_, _, _, _, _, c3, _⟩ := HS.out.cells
          rw [he1] at c3
          by_cases hl0 : l.length = 0
          · rw [if_pos ⟨hl0, he1⟩] at hR
            have HR := Lib.hid (⟨hR, hl0⟩ : _ ∧ _)
            have j0 : ((l.length : Int) == 0) = true := beq_iff_eq.2 (by omega)
            clear hR hl0 hxz hpp
            go_wp2_with fail
            refine (d_fail 4 HS.out).mono ?_
            rintro e w2 ⟨rfl, S⟩
            have HS := Lib.hid S
            clear S j0 c3
            go_wp2_with fail
            go_ret
            have hR := HR.out.1
            subst hR
            refine ⟨ao, cap, rfl, ?_⟩
            unfold dlenE
            simp only
            rw [if_neg (by have := HR.out.2; omega)]
            exact HS.out
          · rw [if_neg (fun h => hl0 h.1), if_pos (show 0 < l.length by omega)] at hR
            have j0 : ((l.length : Int) == 0) = false := beq_eq_false_iff_ne.2 (by omega)
            have j1 : (0 : Int) < (l.length : Int) := by omega
            have hrow : w1.ownsRow 0 3 1 (.slice ao l.length cap) l.length (l.map iz) := HS.out.obj (i := 0) rfl
            obtain ⟨V, hV⟩ : ∃ V, l[l.length - 1]? = some V := ⟨_, List.getElem?_eq_getElem (by omega)⟩
            rw [List.getD_eq_getElem?_getD, hV, Option.getD_some] at hR
            obtain ⟨gb, cap2, hgb⟩ := own_at hrow (by omega)
            injection hgb with e1 _ e3
            subst e1 e3
            obtain ⟨idx, hidx⟩ : ∃ idx, l.length - 1 = idx := ⟨_, rfl⟩
            rw [hidx] at hV
            have hix : (l.length : Int) - 1 = (idx : Int) := by omega
            have hio : (idx : Int) < (l.length : Int) := by omega
            have HV := Lib.hid hV
            have HR := Lib.hid hR
            clear hR hl0 hrow hV hidx hl
            go_wp2_with fail
            refine (d_get 2 (by omega) hs HS.out).mono ?_
            rintro e w2 ⟨rfl, S⟩
            have HS := Lib.hid S
            have hu := dget_lt2 (s := s) 2 t1
            have hpg := dget_p s 2 t1
            have hR := HR.out
            have hge : (dget s 2 t1).2.e = 0 → t1.e = 0 := fun h => by
              refine Decidable.byContradiction fun h' => ?_
              rw [dget_dead h'] at h
              exact h' h
            clear S HR
            generalize dget s 2 t1 = Y at *
            obtain ⟨u, t2⟩ := Y
            simp only at HS hu hpg hge hR ⊢
            obtain ⟨T, hT1⟩ : ∃ T, u + 3 = T := ⟨_, rfl⟩
            rw [hT1] at hR
            have hTi : (u : Int) + 3 = (T : Int) := by omega
            have hT8 : T ≤ 138 := by omega
            have t2p : t2.e = 0 → 8 * s.size < t2.p + g := fun h => by have := hpp.2.2 (hge h); omega
            have HR := Lib.hid hR
            clear hR hT1 hu hpg hge hpp
            have c5 : w2.cell? ⟨gb, idx, none⟩ = some (iz V) := ownsRow_at (show w2.ownsRow 0 3 1 (.slice (some ⟨gb, 0, none⟩) l.length cap) l.length (l.map iz) from HS.out.obj (i := 0) rfl) (by rw [List.getElem?_map, HV.out]; rfl)
            go_wp2_with fail
            clear c5 hix hio j0 HV
            have j9 : decide (0 < l.length) = true := decide_eq_true (by omega)
            rw [j9]
            clear j9 j1
            clear hTi
            obtain ⟨G, hG⟩ : ∃ G, g = G := ⟨_, rfl⟩
            subst hG
            have HL0 := HLL
            obtain ⟨l0, hl0⟩ : ∃ l0, l0 = l := ⟨_, rfl⟩
            have HR := Lib.hid (show dlenF s D n g (l0 ++ List.replicate T V) t2 = R by rw [hl0]; exact HR.out)
            have HL0 := Lib.hid (show l0.length ≤ n by rw [hl0]; exact HL0.out)
            go_loopg [7, 11] T (fun g2 lv iv wr => ∃ (k : Nat) (ao : Option Addr) (cap : Nat) (l : List Int), g2 + k = T ∧ iv = .int .i64 k ∧ lv = .slice ao l.length cap ∧ l = l0 ++ List.replicate k V ∧ DS w0 wr ub rb Fr' s B t2 (oIn ao cap l :: L))
            case atStart => exact ⟨0, _, _, l, by omega, by go_num, rfl, by rw [hl0]; simp, HS.out⟩
            case round =>
              clear HS
              obtain ⟨k, ao, cap, l, hk, rfl, rfl, hlk, S⟩ := hrel
              have HS := Lib.hid S
              have HLK := Lib.hid hlk
              have hlb : l.length ≤ n + k := by rw [hlk, List.length_append, List.length_replicate]; have := HL0.out; omega
              clear S hlk
              cases gk with
              | zero =>
                obtain rfl : k = T := by omega
                go_wp2_with fail
                go_roundg g
                case measure => omega
                case rel => exact ⟨t2, _, _, l, t2p, by omega, by rw [HLK.out]; exact HR.out, rfl, HS.out⟩
              | succ g2 =>
                have hkn : (k : Int) < (T : Int) := by omega
                have hown : wr.ownsRow 0 3 1 (.slice ao l.length cap) l.length (l.map iz) := HS.out.obj (i := 0) rfl
                go_wp2_with (at_builtin; go_loud (refine wpList_append_lies _ rfl _ _ 42 rfl 0 3 i0 _ 1 8 Try.underlying42 hif hz0 hz1 hz2 rfl (by decide) (.slice ao l.length cap) l.length (l.map iz) rfl (World.ownsRow.alloc hown _) ⟨wr.heap.size, 0, none⟩ 1 1 [iz V] rfl rfl (cell_one_new _ _ _) (by simp [Value.oneCell']) (by decide) (by unfold maxLen; omega) (by omega) (by omega) (wr.heap.size + 1) (by simp) ?_; intro g1 cap1 w2 hown1 hgrow1 hat1 hlt1; have P1 := push_local (cap := cap1) (n := l.length + 1) hgrow1 hat1; have H2 := Lib.hid (HS.out.row (o' := oIn (some ⟨g1, 0, none⟩) cap1 (l ++ [V])) P1.1 (by have := P1.2; simpa only [oIn, oSl, List.length_append, List.length_singleton] using this) (show w2.ownsRow 0 3 1 (.slice (some ⟨g1, 0, none⟩) (l ++ [V]).length cap1) (l ++ [V]).length ((l ++ [V]).map iz) by rw [List.map_append, List.length_append]; exact hown1)); clear P1 hown1 hgrow1 hat1 hown))
                go_roundg g2
                case measure => omega
                case rel => exact ⟨k + 1, _, cap1, l ++ [V], by omega, by go_num, by rw [List.length_append]; rfl, by rw [HLK.out, List.append_assoc, List.replicate_succ'], H2.out⟩
        · rw [if_neg q16] at hR
          have j16 : (x == 16) = false := beq_eq_false_iff_ne.2 q16
          have j16' : ((x : Int) == 16) = false := beq_eq_false_iff_ne.2 (by omega)
          by_cases q17 : x = 17
          · rw [if_pos q17] at hR
            subst q17
            have HR := Lib.hid hR
            clear hR hxz hl
            go_wp2_with fail
            refine (d_get 3 (by omega) hs HS.out).mono ?_
            rintro e w2 ⟨rfl, S⟩
            have HS := Lib.hid S
            have hu := dget_lt2 (s := s) 3 t1
            have hpg := dget_p s 3 t1
            have hR := HR.out
            have hge : (dget s 3 t1).2.e = 0 → t1.e = 0 := fun h => by
              refine Decidable.byContradiction fun h' => ?_
              rw [dget_dead h'] at h
              exact h' h
            clear S HR
            generalize dget s 3 t1 = Y at *
            obtain ⟨u, t2⟩ := Y
            simp only at HS hu hpg hge hR ⊢
            obtain ⟨T, hT1⟩ : ∃ T, u + 3 = T := ⟨_, rfl⟩
            rw [hT1] at hR
            have hTi : (u : Int) + 3 = (T : Int) := by omega
            have hT8 : T ≤ 138 := by omega
            have t2p : t2.e = 0 → 8 * s.size < t2.p + g := fun h => by have := hpp.2.2 (hge h); omega
            have HR := Lib.hid hR
            clear hR hT1 hu hpg hge hpp
            clear j16 j16'
            go_wp2_with fail
            clear hTi
            obtain ⟨G, hG⟩ : ∃ G, g = G := ⟨_, rfl⟩
            subst hG
            have HL0 := HLL
            obtain ⟨l0, hl0⟩ : ∃ l0, l0 = l := ⟨_, rfl⟩
            have HR := Lib.hid (show dlenF s D n g (l0 ++ List.replicate T (0 : Int)) t2 = R by rw [hl0]; exact HR.out)
            have HL0 := Lib.hid (show l0.length ≤ n by rw [hl0]; exact HL0.out)
            go_loopg [7, 11] T (fun g2 lv iv wr => ∃ (k : Nat) (ao : Option Addr) (cap : Nat) (l : List Int), g2 + k = T ∧ iv = .int .i64 k ∧ lv = .slice ao l.length cap ∧ l = l0 ++ List.replicate k (0 : Int) ∧ DS w0 wr ub rb Fr' s B t2 (oIn ao cap l :: L))
            case atStart => exact ⟨0, _, _, l, by omega, by go_num, rfl, by rw [hl0]; simp, HS.out⟩
            case round =>
              clear HS
              obtain ⟨k, ao, cap, l, hk, rfl, rfl, hlk, S⟩ := hrel
              have HS := Lib.hid S
              have HLK := Lib.hid hlk
              have hlb : l.length ≤ n + k := by rw [hlk, List.length_append, List.length_replicate]; have := HL0.out; omega
              clear S hlk
              cases gk with
              | zero =>
                obtain rfl : k = T := by omega
                go_wp2_with fail
                go_roundg g
                case measure => omega
                case rel => exact ⟨t2, _, _, l, t2p, by omega, by rw [HLK.out]; exact HR.out, rfl, HS.out⟩
              | succ g2 =>
                have hkn : (k : Int) < (T : Int) := by omega
                have hown : wr.ownsRow 0 3 1 (.slice ao l.length cap) l.length (l.map iz) := HS.out.obj (i := 0) rfl
                go_wp2_with (at_builtin; go_loud (refine wpList_append_lies _ rfl _ _ 42 rfl 0 3 i0 _ 1 8 Try.underlying42 hif hz0 hz1 hz2 rfl (by decide) (.slice ao l.length cap) l.length (l.map iz) rfl (World.ownsRow.alloc hown _) ⟨wr.heap.size, 0, none⟩ 1 1 [iz (0 : Int)] rfl rfl (cell_one_new _ _ _) (by simp [Value.oneCell']) (by decide) (by unfold maxLen; omega) (by omega) (by omega) (wr.heap.size + 1) (by simp) ?_; intro g1 cap1 w2 hown1 hgrow1 hat1 hlt1; have P1 := push_local (cap := cap1) (n := l.length + 1) hgrow1 hat1; have H2 := Lib.hid (HS.out.row (o' := oIn (some ⟨g1, 0, none⟩) cap1 (l ++ [(0 : Int)])) P1.1 (by have := P1.2; simpa only [oIn, oSl, List.length_append, List.length_singleton] using this) (show w2.ownsRow 0 3 1 (.slice (some ⟨g1, 0, none⟩) (l ++ [(0 : Int)]).length cap1) (l ++ [(0 : Int)]).length ((l ++ [(0 : Int)]).map iz) by rw [List.map_append, List.length_append]; exact hown1)); clear P1 hown1 hgrow1 hat1 hown))
                go_roundg g2
                case measure => omega
                case rel => exact ⟨k + 1, _, cap1, l ++ [(0 : Int)], by omega, by go_num, by rw [List.length_append]; rfl, by rw [HLK.out, List.append_assoc, List.replicate_succ'], H2.out⟩
          · rw [if_neg q17] at hR
            have j17 : (x == 17) = false := beq_eq_false_iff_ne.2 q17
            have j17' : ((x : Int) == 17) = false := beq_eq_false_iff_ne.2 (by omega)
            by_cases q18 : x = 18
            · rw [if_pos q18] at hR
              subst q18
              have HR := Lib.hid hR
              clear hR hxz hl
              go_wp2_with fail
              refine (d_get 7 (by omega) hs HS.out).mono ?_
              rintro e w2 ⟨rfl, S⟩
              have HS := Lib.hid S
              have hu := dget_lt2 (s := s) 7 t1
              have hpg := dget_p s 7 t1
              have hR := HR.out
              have hge : (dget s 7 t1).2.e = 0 → t1.e = 0 := fun h => by
                refine Decidable.byContradiction fun h' => ?_
                rw [dget_dead h'] at h
                exact h' h
              clear S HR
              generalize dget s 7 t1 = Y at *
              obtain ⟨u, t2⟩ := Y
              simp only at HS hu hpg hge hR ⊢
              obtain ⟨T, hT1⟩ : ∃ T, u + 11 = T := ⟨_, rfl⟩
              rw [hT1] at hR
              have hTi : (u : Int) + 11 = (T : Int) := by omega
              have hT8 : T ≤ 138 := by omega
              have t2p : t2.e = 0 → 8 * s.size < t2.p + g := fun h => by have := hpp.2.2 (hge h); omega
              have HR := Lib.hid hR
              clear hR hT1 hu hpg hge hpp
              clear j16 j16' j17 j17'
              go_wp2_with fail
              clear hTi
              obtain ⟨G, hG⟩ : ∃ G, g = G := ⟨_, rfl⟩
              subst hG
              have HL0 := HLL
              obtain ⟨l0, hl0⟩ : ∃ l0, l0 = l := ⟨_, rfl⟩
              have HR := Lib.hid (show dlenF s D n g (l0 ++ List.replicate T (0 : Int)) t2 = R by rw [hl0]; exact HR.out)
              have HL0 := Lib.hid (show l0.length ≤ n by rw [hl0]; exact HL0.out)
              go_loopg [7, 11] T (fun g2 lv iv wr => ∃ (k : Nat) (ao : Option Addr) (cap : Nat) (l : List Int), g2 + k = T ∧ iv = .int .i64 k ∧ lv = .slice ao l.length cap ∧ l = l0 ++ List.replicate k (0 : Int) ∧ DS w0 wr ub rb Fr' s B t2 (oIn ao cap l :: L))
              case atStart => exact ⟨0, _, _, l, by omega, by go_num, rfl, by rw [hl0]; simp, HS.out⟩
              case round =>
                clear HS
                obtain ⟨k, ao, cap, l, hk, rfl, rfl, hlk, S⟩ := hrel
                have HS := Lib.hid S
                have HLK := Lib.hid hlk
                have hlb : l.length ≤ n + k := by rw [hlk, List.length_append, List.length_replicate]; have := HL0.out; omega
                clear S hlk
                cases gk with
                | zero =>
                  obtain rfl : k = T := by omega
                  go_wp2_with fail
                  go_roundg g
                  case measure => omega
                  case rel => exact ⟨t2, _, _, l, t2p, by omega, by rw [HLK.out]; exact HR.out, rfl, HS.out⟩
                | succ g2 =>
                  have hkn : (k : Int) < (T : Int) := by omega
                  have hown : wr.ownsRow 0 3 1 (.slice ao l.length cap) l.length (l.map iz) := HS.out.obj (i := 0) rfl
                  go_wp2_with (at_builtin; go_loud (refine wpList_append_lies _ rfl _ _ 42 rfl 0 3 i0 _ 1 8 Try.underlying42 hif hz0 hz1 hz2 rfl (by decide) (.slice ao l.length cap) l.length (l.map iz) rfl (World.ownsRow.alloc hown _) ⟨wr.heap.size, 0, none⟩ 1 1 [iz (0 : Int)] rfl rfl (cell_one_new _ _ _) (by simp [Value.oneCell']) (by decide) (by unfold maxLen; omega) (by omega) (by omega) (wr.heap.size + 1) (by simp) ?_; intro g1 cap1 w2 hown1 hgrow1 hat1 hlt1; have P1 := push_local (cap := cap1) (n := l.length + 1) hgrow1 hat1; have H2 := Lib.hid (HS.out.row (o' := oIn (some ⟨g1, 0, none⟩) cap1 (l ++ [(0 : Int)])) P1.1 (by have := P1.2; simpa only [oIn, oSl, List.length_append, List.length_singleton] using this) (show w2.ownsRow 0 3 1 (.slice (some ⟨g1, 0, none⟩) (l ++ [(0 : Int)]).length cap1) (l ++ [(0 : Int)]).length ((l ++ [(0 : Int)]).map iz) by rw [List.map_append, List.length_append]; exact hown1)); clear P1 hown1 hgrow1 hat1 hown))
                  go_roundg g2
                  case measure => omega
                  case rel => exact ⟨k + 1, _, cap1, l ++ [(0 : Int)], by omega, by go_num, by rw [List.length_append]; rfl, by rw [HLK.out, List.append_assoc, List.replicate_succ'], H2.out⟩
            · rw [if_neg q18] at hR
              have j18 : (x == 18) = false := beq_eq_false_iff_ne.2 q18
              have j18' : ((x : Int) == 18) = false := beq_eq_false_iff_ne.2 (by omega)
              have hTi : 0 ≤ 1 := by omega
              have HR := Lib.hid hR
              have t2p : t1.e = 0 → 8 * s.size < t1.p + g := fun h => by have := hpp.2.2 h; omega
              generalize t1 = t2 at *
              clear hR hxz hpp hl
              go_wp2_with fail
              clear j16 j16' j17 j17' j18 j18'
              clear hTi
              obtain ⟨G, hG⟩ : ∃ G, g = G := ⟨_, rfl⟩
              subst hG
              have HL0 := HLL
              obtain ⟨l0, hl0⟩ : ∃ l0, l0 = l := ⟨_, rfl⟩
              have HR := Lib.hid (show dlenF s D n g (l0 ++ List.replicate 1 (x : Int)) t2 = R by rw [hl0]; exact HR.out)
              have HL0 := Lib.hid (show l0.length ≤ n by rw [hl0]; exact HL0.out)
              go_loopg [7, 11] 1 (fun g2 lv iv wr => ∃ (k : Nat) (ao : Option Addr) (cap : Nat) (l : List Int), g2 + k = 1 ∧ iv = .int .i64 k ∧ lv = .slice ao l.length cap ∧ l = l0 ++ List.replicate k (x : Int) ∧ DS w0 wr ub rb Fr' s B t2 (oIn ao cap l :: L))
              case atStart => exact ⟨0, _, _, l, by omega, by go_num, rfl, by rw [hl0]; simp, HS.out⟩
              case round =>
                clear HS
                obtain ⟨k, ao, cap, l, hk, rfl, rfl, hlk, S⟩ := hrel
                have HS := Lib.hid S
                have HLK := Lib.hid hlk
                have hlb : l.length ≤ n + k := by rw [hlk, List.length_append, List.length_replicate]; have := HL0.out; omega
                clear S hlk
                cases gk with
                | zero =>
                  obtain rfl : k = 1 := by omega
                  go_wp2_with fail
                  go_roundg g
                  case measure => omega
                  case rel => exact ⟨t2, _, _, l, t2p, by omega, by rw [HLK.out]; exact HR.out, rfl, HS.out⟩
                | succ g2 =>
                  have hkn : (k : Int) < (1 : Int) := by omega
                  have hown : wr.ownsRow 0 3 1 (.slice ao l.length cap) l.length (l.map iz) := HS.out.obj (i := 0) rfl
                  go_wp2_with (at_builtin; go_loud (refine wpList_append_lies _ rfl _ _ 42 rfl 0 3 i0 _ 1 8 Try.underlying42 hif hz0 hz1 hz2 rfl (by decide) (.slice ao l.length cap) l.length (l.map iz) rfl (World.ownsRow.alloc hown _) ⟨wr.heap.size, 0, none⟩ 1 1 [iz (x : Int)] rfl rfl (cell_one_new _ _ _) (by simp [Value.oneCell']) (by decide) (by unfold maxLen; omega) (by omega) (by omega) (wr.heap.size + 1) (by simp) ?_; intro g1 cap1 w2 hown1 hgrow1 hat1 hlt1; have P1 := push_local (cap := cap1) (n := l.length + 1) hgrow1 hat1; have H2 := Lib.hid (HS.out.row (o' := oIn (some ⟨g1, 0, none⟩) cap1 (l ++ [(x : Int)])) P1.1 (by have := P1.2; simpa only [oIn, oSl, List.length_append, List.length_singleton] using this) (show w2.ownsRow 0 3 1 (.slice (some ⟨g1, 0, none⟩) (l ++ [(x : Int)]).length cap1) (l ++ [(x : Int)]).length ((l ++ [(x : Int)]).map iz) by rw [List.map_append, List.length_append]; exact hown1)); clear P1 hown1 hgrow1 hat1 hown))
                  go_roundg g2
                  case measure => omega
                  case rel => exact ⟨k + 1, _, cap1, l ++ [(x : Int)], by omega, by go_num, by rw [List.length_append]; rfl, by rw [HLK.out, List.append_assoc, List.replicate_succ'], H2.out⟩
      · have hb : (t.e == 0) = false := beq_eq_false_iff_ne.2 h0
        rw [dlenF_stop s D n gk l t (fun h => h0 h.2)] at hR
        generalize hte : t.e = te at c3 hb
        clear h0
        subst hR
        have HN := Lib.hid (show ¬ n < l.length by omega)
        clear hl hll
        go_wp2_with fail
        go_ret
        refine ⟨ao, cap, rfl, ?_⟩
        unfold dlenE
        simp only
        rw [if_neg HN.out]
        exact HS.out
    · have hl' : ¬ (l.length : Int) < (n : Int) := by omega
      rw [dlenF_stop s D n gk l t (fun h => hl h.1)] at hR
      subst hR
      by_cases hlast : n < l.length
      · have hlast' : (n : Int) < (l.length : Int) := by omega
        go_wp2_with fail
        refine (d_fail 4 HS.out).mono ?_
        rintro e w2 ⟨rfl, S⟩
        have HS := Lib.hid S
        clear S
        go_wp2_with fail
        go_ret
        refine ⟨ao, cap, rfl, ?_⟩
        unfold dlenE
        simp only
        rw [if_pos hlast]
        exact HS.out
      · have hlast' : ¬ (n : Int) < (l.length : Int) := by omega
        go_wp2_with fail
        go_ret
        refine ⟨ao, cap, rfl, ?_⟩
        unfold dlenE
        simp only
        rw [if_neg hlast]
        exact HS.out
end
end Go.Proofs.Ytgjenpdppobpkaa.If
