/-
  LzwCuts: cut anywhere it is not whole; the first codes of a text are those of its first bytes.
-/
import Derived.Test.YtcbllkopolbhaaaLzBack
namespace Go.Proofs.Ytcbllkopolbhaaa.Lz
open Go.RowKit Go.Maps

theorem ext_more (tb : List (Nat × Nat)) (m : List Nat) : ∀ (l : List Nat) (row : Nat), (ext tb row l).2 ≠ [] → ext tb row (l ++ m) = ((ext tb row l).1, (ext tb row l).2 ++ m)
  | [], row, h => absurd rfl h
  | c :: r, row, h => by
    rw [List.cons_append]
    unfold ext at h ⊢
    cases hl : look tb (row, c) with
    | none => rfl
    | some n =>
      simp only [hl] at h ⊢
      exact ext_more tb m r n h
theorem codesF_pos : ∀ (f : Nat) (tb : List (Nat × Nat)) (known : Nat) (l : List Nat), 1 ≤ (codesF f tb known l).length
  | 0, _, _, _ => by simp [codesF]
  | f + 1, _, _, [] => by simp [codesF]
  | f + 1, tb, known, c :: r => by
    unfold codesF
    simp only
    split <;> simp
theorem codesF_pre (m : List Nat) : ∀ (f f' : Nat) (tb : List (Nat × Nat)) (known : Nat) (l : List Nat), l.length ≤ f → (l ++ m).length ≤ f' → known + l.length < 4094 →
    ∃ pre x y, codesF f tb known l = pre ++ x ∧ codesF f' tb known (l ++ m) = pre ++ y ∧ 1 ≤ x.length ∧ x.length ≤ 2 ∧ 1 ≤ y.length
  | f, f', tb, known, [], _, _, _ => ⟨[], _, _, rfl, rfl, codesF_pos _ _ _ _, by cases f <;> simp [codesF], codesF_pos _ _ _ _⟩
  | 0, _, _, _, c :: r, h, _, _ => by simp at h
  | f + 1, 0, _, _, c :: r, _, h, _ => by simp at h
  | f + 1, f' + 1, tb, known, c :: r, h, h', hk => by
    have hl := ext_len tb c r
    simp only [List.length_cons, List.length_append, List.cons_append] at h h' hk
    by_cases he : (ext tb c r).2 = []
    · refine ⟨[], codesF (f + 1) tb known (c :: r), codesF (f' + 1) tb known ((c :: r) ++ m), rfl, rfl, codesF_pos _ _ _ _, ?_, codesF_pos _ _ _ _⟩
      have e1 : codesF (f + 1) tb known (c :: r) = (ext tb c r).1 :: codesF f (grow tb (ext tb c r).1 (ext tb c r).2) (known + 1) (ext tb c r).2 := by
        conv => lhs; unfold codesF
        simp only
        rw [if_neg (by omega)]
      rw [e1, he]
      cases f <;> simp [codesF]
    · have hm := ext_more tb m r c he
      obtain ⟨pre, x, y, h1, h2, h3⟩ := codesF_pre m f f' (grow tb (ext tb c r).1 (ext tb c r).2) (known + 1) (ext tb c r).2 (by omega) (by rw [List.length_append]; omega) (by omega)
      refine ⟨(ext tb c r).1 :: pre, x, y, ?_, ?_, h3⟩
      · conv => lhs; unfold codesF
        simp only
        rw [if_neg (by omega), h1]
        rfl
      · rw [List.cons_append]
        conv => lhs; unfold codesF
        simp only [hm]
        rw [if_neg (by omega)]
        have hg : grow tb (ext tb c r).1 ((ext tb c r).2 ++ m) = grow tb (ext tb c r).1 (ext tb c r).2 := by
          cases hq : (ext tb c r).2 with
          | nil => exact absurd hq he
          | cons d q => rfl
        rw [hg, h2]
        rfl
theorem tailB_append (a b : ByteArray) : tailB (a ++ b) 0 = tailB a 0 ++ tailB b 0 := by
  have h : ∀ s : ByteArray, tailB s 0 = s.data.toList.map (·.toNat) := fun s => by
    unfold tailB
    apply List.ext_getElem
    · simp
    · intro i h1 h2
      have hi : i < s.size := by simpa using h2
      simp only [List.getElem_map, List.getElem_range, Nat.zero_add]
      rw [← Bt.byteAt_eq s i hi]
      rfl
  rw [h, h, h]
  simp
theorem codes_pre (s m : ByteArray) (h : s.size ≤ 700) : (codes (tailB s 0)).length ≤ (codes (tailB (s ++ m) 0)).length + 1 ∧ 2 ≤ (codes (tailB s 0)).length ∧
    ∀ i, i + 2 < (codes (tailB s 0)).length → ∃ u, (codes (tailB s 0))[i]? = some u ∧ (codes (tailB (s ++ m) 0))[i]? = some u := by
  obtain ⟨pre, x, y, h1, h2, h3, h4, h5⟩ := codesF_pre (tailB m 0) (tailB s 0).length (tailB (s ++ m) 0).length [] 257 (tailB s 0) (Nat.le_refl _) (by rw [tailB_append]; exact Nat.le_refl _) (by rw [tailB_len]; omega)
  have e1 : codes (tailB s 0) = (256 :: pre) ++ x := by rw [codes, h1]; rfl
  have e2 : codes (tailB (s ++ m) 0) = (256 :: pre) ++ y := by
    have : codes (tailB (s ++ m) 0) = 256 :: codesF (tailB (s ++ m) 0).length [] 257 (tailB s 0 ++ tailB m 0) := by rw [codes, ← tailB_append]
    rw [this, h2]; rfl
  rw [e1, e2]
  refine ⟨by simp; omega, by simp; omega, fun i hi => ?_⟩
  have hp : i < (256 :: pre).length := by
    have : ((256 :: pre) ++ x).length = (256 :: pre).length + x.length := List.length_append
    omega
  exact ⟨(256 :: pre)[i], by rw [List.getElem?_append_left hp, List.getElem?_eq_getElem hp], by rw [List.getElem?_append_left hp, List.getElem?_eq_getElem hp]⟩
theorem cut_more (s : ByteArray) (early : Bool) (k : Nat) (hk : k < (putS early s).size) : getL ((putS early s).extract 0 k) early s.size = ([], 8) := by
  have hsz := putS_sz s early
  have hek : ((putS early s).extract 0 k).size = k := by simp; omega
  have hr : Rd ((putS early s).extract 0 k) (putB early s) := fun i hi h8 => by
    rw [hek] at h8
    rw [← Rd.put s early i hi (by omega)]
    unfold Bt.bit Bt.byteAt
    congr 2
    rw [List.getD_eq_getElem?_getD, List.getD_eq_getElem?_getD]
    have : i / 8 < k := by omega
    simp [this]
  rw [get_put _ s early _ hr (by omega) (fun _ => by omega), hek, if_pos (by omega)]

theorem wf_i64 {n : Int} (h : (Lit.int .i64 n).wf = true) : -9223372036854775808 ≤ n ∧ n ≤ 9223372036854775807 := by
  simp [Lit.wf, IntKind.min, IntKind.max, IntKind.signed, IntKind.bits] at h
  omega
set_option maxRecDepth 100000 in
set_option maxHeartbeats 8000000 in
theorem cuts_walk (s more : ByteArray) (early : Bool) (at_ : Int) (w : World) (_hs : s.size ≤ maxLen) (_hb : more.size ≤ maxLen) (wa : (Lit.int .i64 at_).wf = true) :
    Calls Try.prog 8 #[.string s, .string more, .bool early, .int .i64 at_] w fun e w' => e = .returned (.bool true) ∧ Ext [] w w' := by
  unfold maxLen at _hs _hb
  obtain ⟨ha0, ha1⟩ := wf_i64 wa
  by_cases h1 : s.size ≤ 700
  · by_cases h2 : more.size ≤ 700
    · have hpb := putS_bound s early (by omega)
      have hps := putS_sz s early
      have hpl : 0 < (putB early s).length := by rw [putB_eq, List.length_append, Bt.bitsOf_length]; have := wid_le 258 early; omega
      have hp0 : 0 < (putS early s).size := by omega
      obtain ⟨k, hk⟩ : ∃ k : Nat, at_ % ((putS early s).size : Int) = k := ⟨(at_ % ((putS early s).size : Int)).toNat, by have := Int.emod_nonneg at_ (show ((putS early s).size : Int) ≠ 0 by omega); omega⟩
      have hkl : k < (putS early s).size := by have := Int.emod_lt_of_pos at_ (show (0 : Int) < ((putS early s).size : Int) by omega); omega
      have hcut := cut_more s early k hkl
      obtain ⟨c1, c2, c3⟩ := codes_pre s more h1
      obtain ⟨p, hpp⟩ : ∃ p, p = putS early s := ⟨_, rfl⟩
      generalize hca : codes (tailB s 0) = ca at c1 c2 c3
      generalize hcb : codes (tailB (s ++ more) 0) = cb at c1 c3
      rw [← hpp] at hpb hp0 hk hkl hcut
      have HP := Lib.hid hpp
      have HCA := Lib.hid hca
      have HCB := Lib.hid hcb
      have HC := Lib.hid hcut
      have HK := Lib.hid hk
      have H3 := Lib.hid c3
      clear hpp hca hcb hcut hk c3 hps hpl
      go_enter Try.func8, Try.ntmps8
      go_wp2_with fail
      refine (lives14 w).mono ?_; rintro e w1 ⟨rfl, hx⟩
      go_wp2_with fail
      refine (put_walk s early _ (by omega)).mono ?_; rintro e w2 ⟨rfl, hx2⟩
      rw [← HP.out]
      have hx := hx.trans hx2
      clear hx2
      go_wp2_with fail
      refine (Bt.pick_any at_ p.size _ (by omega) (by omega) ha0 ha1).mono ?_; rintro e w3 ⟨rfl, rfl⟩
      rw [HK.out]
      go_wp2_with fail
      refine (get_any (p.extract 0 k) early s.size _ (by simp; omega) (by omega) (by omega)).mono ?_; rintro e w4 ⟨rfl, hx2⟩
      rw [HC.out]
      have S := (Sep.start w).quiet (hx.trans hx2)
      clear hx hx2
      go_wp2_with fail
      refine (sCodes s (by omega) S).mono ?_; clear S; rintro e w5 ⟨v1, rfl, S⟩
      rw [HCA.out] at S
      obtain ⟨g1, cap1, rfl⟩ := row_form (show w5.ownsRow 0 3 1 v1 ca.length _ from S.get 0 rfl) (by omega)
      go_wp2_with fail
      have hsm : (s ++ more).size ≤ 1048576 := by simp; omega
      refine (sCodes (s ++ more) hsm S).mono ?_; clear S; rintro e w6 ⟨v2, rfl, S⟩
      rw [HCB.out] at S
      obtain ⟨g2, cap2, rfl⟩ := row_form (show w6.ownsRow 0 3 1 v2 cb.length _ from S.get 0 rfl) (by omega)
      have l1 := row_le (show w6.ownsRow 0 3 1 _ ca.length _ from S.get 1 rfl)
      have l2 := row_le (show w6.ownsRow 0 3 1 _ cb.length _ from S.get 0 rfl)
      have HS := Lib.hid S
      clear S hsm
      go_wp2_with fail
      go_loopg [14] ca.length (fun gg i wr => ∃ k : Nat, gg + k = ca.length ∧ i = .int .i64 k ∧ Ext [] w6 wr)
      case atStart => exact ⟨0, by omega, rfl, Ext.refl _ _⟩
      case round =>
        obtain ⟨j, hj, rfl, hxr⟩ := hrel
        have S := HS.out.quiet hxr
        have HX := Lib.hid hxr
        clear hxr
        by_cases hlt : j + 2 < ca.length
        · obtain ⟨u, hu1, hu2⟩ := H3.out j hlt
          have hlb : j < cb.length := (List.getElem?_eq_some_iff.1 hu2).1
          have q1 : wr.cell? ⟨g1, j, none⟩ = some (.int .i64 u) := ownsRow_at (S.get 1 rfl) (by simp [hu1, iv])
          have q2 : wr.cell? ⟨g2, j, none⟩ = some (.int .i64 u) := ownsRow_at (S.get 0 rfl) (by simp [hu2, iv])
          have i1 : (0 : Int) ≤ (j : Int) := by omega
          have i2 : (j : Int) < (ca.length : Int) := by omega
          have i3 : (j : Int) < (cb.length : Int) := by omega
          clear hu1 hu2 S
          go_wp2_with fail
          go_quiet (fail)
          go_wp2_with fail
          go_roundg (ca.length - (j + 1))
          case measure => omega
          case rel => exact ⟨j + 1, by omega, by go_num, HX.out.drewN _⟩
        · go_wp2_with fail
          go_ret
          exact ⟨rfl, S.ext⟩
    · have h2' : 700 < more.size := by omega
      go_enter Try.func8, Try.ntmps8
      go_wp2_with fail
      refine (lives14 w).mono ?_; rintro e w1 ⟨rfl, hx⟩
      go_wp2_with fail
      go_ret
      exact ⟨rfl, hx⟩
  · have h1' : 700 < s.size := by omega
    go_enter Try.func8, Try.ntmps8
    go_wp2_with fail
    refine (lives14 w).mono ?_; rintro e w1 ⟨rfl, hx⟩
    go_wp2_with fail
    go_ret
    exact ⟨rfl, hx⟩
end Go.Proofs.Ytcbllkopolbhaaa.Lz
