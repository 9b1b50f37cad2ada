/-
  tree: find, Get walked; kit.Same of strings.
-/
import Derived.Test.YtkjcjklnclahdaaDoorTrW
namespace Go.Proofs.YtkjcjklnclahdaaDoor.Tr
open Go.RowKit

/-- the place that BinarySearchFunc ends at -/
def binF (L : List ByteArray) (s : ByteArray) : Nat → Nat → Nat → Nat
  | 0, i, _ => i
  | g + 1, i, j => if i < j then if cmpN (L.getD ((i + j) / 2) ⟨#[]⟩) s < 0 then binF L s g ((i + j) / 2 + 1) j else binF L s g i ((i + j) / 2) else i
def findN (L : List ByteArray) (s : ByteArray) : Nat := binF L s (L.length + 1) 0 L.length
def foundN (L : List ByteArray) (s : ByteArray) : Bool := decide (findN L s < L.length) && decide (cmpN (L.getD (findN L s) ⟨#[]⟩) s = 0)
theorem binF_le (L : List ByteArray) (s : ByteArray) : ∀ (g i j : Nat), i ≤ j → i ≤ binF L s g i j ∧ binF L s g i j ≤ j
  | 0, i, j, h => ⟨Nat.le_refl _, h⟩
  | g + 1, i, j, h => by
    rw [binF]
    split
    · split
      · have := binF_le L s g ((i + j) / 2 + 1) j (by omega); omega
      · have := binF_le L s g i ((i + j) / 2) (by omega); omega
    · omega
set_option maxRecDepth 100000 in
set_option maxHeartbeats 2000000 in
theorem fcmp_walk (a b : ByteArray) (w : World) : Calls Tryd.prog 67 #[.string a, .string b] w fun e w' => e = .returned (.int .i64 (cmpN a b)) ∧ Ext [] w w' := by
  have H := Lib.hid (fun w => Tryd.strings_Compare a b w)
  go_enter Tryd.func67, Tryd.ntmps67
  go_wp2_with fail
  refine (H.out _).mono ?_
  rintro e w' ⟨rfl, rfl⟩
  go_wp2_with fail
  go_ret
  exact ⟨rfl, Ext.refl _ _⟩
set_option maxRecDepth 100000 in
set_option maxHeartbeats 2000000 in
theorem bin_walk (v : Value) (L : List ByteArray) (s : ByteArray) (w : World) (h : StrsAt w v L) (hl : L.length ≤ 1048576) :
    Calls Tryd.prog 66 #[v, .string s, .func (.func 67) #[] #[]] w fun e w' => e = .returned (.tuple #[.int .i64 (findN L s : Nat), .bool (foundN L s)]) ∧ Ext [] w w' := by
  obtain ⟨base, cap, rfl, -, hT⟩ := h
  obtain ⟨n, hn⟩ : ∃ n, L.length = n := ⟨_, rfl⟩
  obtain ⟨F, hF⟩ : ∃ F, findN L s = F := ⟨_, rfl⟩
  have hFn : F ≤ n := by rw [← hF, ← hn]; exact (binF_le L s _ 0 L.length (by omega)).2
  have hfo : foundN L s = (decide (F < n) && decide (cmpN (L.getD F ⟨#[]⟩) s = 0)) := by rw [foundN, hF, hn]
  obtain ⟨Bo, hBo⟩ : ∃ Bo, foundN L s = Bo := ⟨_, rfl⟩
  rw [hF, hBo]
  rw [hBo] at hfo
  have HBO := Lib.hid hfo
  have hF2 : binF L s (n + 1) 0 n = F := by rw [← hF, findN, hn]
  have HH := Lib.hid (⟨hT, hn, hF2⟩ : _ ∧ _ ∧ _)
  rw [hn] at hl ⊢
  have hcell : ∀ (k : Nat), k < n → ∀ W, Ext [] w W → ∃ b o, base = some ⟨b, o, none⟩ ∧ W.cell? ⟨b, o + k, none⟩ = some (.string (L.getD k ⟨#[]⟩)) := fun k hk W hx => by
    obtain ⟨b, o, e, hc⟩ := hT k (by rw [hn]; exact hk)
    refine ⟨b, o, e, ?_⟩
    rw [hx.cell hc, List.getD_eq_getElem?_getD, List.getElem?_eq_getElem (by rw [hn]; exact hk)]
    rfl
  have HC := Lib.hid hcell
  clear hT hn hF hfo hF2 hcell hBo
  go_enter Tryd.func66, Tryd.ntmps66
  go_wp2_with fail
  go_loopg [9, 10, 11] n (fun g iv jv hv wr => ∃ i j g2 : Nat, j - i ≤ g ∧ g ≤ g2 ∧ i ≤ j ∧ j ≤ n ∧ iv = .int .i64 i ∧ jv = .int .i64 j ∧ binF L s (g2 + 1) i j = F ∧ Ext [] w wr)
  case atStart => exact ⟨0, n, n, by omega, by omega, by omega, by omega, rfl, rfl, HH.out.2.2, Ext.refl _ _⟩
  case round =>
    obtain ⟨i, j, g2, hg, hg2, hij, hjn, rfl, rfl, hB, hx⟩ := hrel
    by_cases hlt : i < j
    · obtain ⟨g, rfl⟩ : ∃ g, gk = g + 1 := ⟨gk - 1, by omega⟩
      obtain ⟨g3, rfl⟩ : ∃ g3, g2 = g3 + 1 := ⟨g2 - 1, by omega⟩
      rw [binF, if_pos hlt] at hB
      obtain ⟨m, hm⟩ : ∃ m, (i + j) / 2 = m := ⟨_, rfl⟩
      rw [hm] at hB
      have hm1 : i ≤ m := by omega
      have hm2 : m < j := by omega
      have hltz : (i : Int) < (j : Int) := by omega
      have hmn : (m : Int) < (n : Int) := by omega
      obtain ⟨b, o, rfl, hc⟩ := HC.out m (by omega) wr hx
      have H := Lib.hid (fun W => fcmp_walk (L.getD m ⟨#[]⟩) s W)
      generalize L.getD m ⟨#[]⟩ = t at *
      obtain ⟨z, hz⟩ : ∃ z, cmpN t s = z := ⟨_, rfl⟩
      simp only [hz] at H hB
      have HX := Lib.hid (⟨hx, hB, hm⟩ : _ ∧ _ ∧ _)
      clear hx hB hm hz
      have hmz : ((i : Int) + (j : Int)) / 2 = (m : Int) := by have := HX.out.2.2; omega
      go_upto_region 5 with (fail)
      clear hmz
      go_wp2_with fail
      refine (H.out _).mono ?_
      rintro e w2 ⟨rfl, hx2⟩
      have HX2 := Lib.hid (HX.out.1.trans hx2)
      clear hx2 H hc
      by_cases hz0 : z < 0
      · go_wp2_with fail
        go_roundg g
        case measure => omega
        case rel => exact ⟨m + 1, j, g3, by omega, by omega, by omega, by omega, by go_num, rfl, by have := HX.out.2.1; rwa [if_pos hz0] at this, HX2.out⟩
      · go_wp2_with fail
        go_roundg g
        case measure => omega
        case rel => exact ⟨i, m, g3, by omega, by omega, by omega, by omega, rfl, rfl, by have := HX.out.2.1; rwa [if_neg (by omega)] at this, HX2.out⟩
    · have hFi : F = i := by rw [← hB, binF, if_neg hlt]
      subst hFi
      have hltz : ¬ (F : Int) < (j : Int) := by omega
      have HX := Lib.hid hx
      clear hB hx
      by_cases hFN : F < n
      · obtain ⟨b, o, rfl, hc⟩ := HC.out F hFN wr HX.out
        have H := Lib.hid (fun W => fcmp_walk (L.getD F ⟨#[]⟩) s W)
        have hFz : (F : Int) < (n : Int) := by omega
        have hQ := HBO.out
        rw [decide_eq_true hFN, Bool.true_and] at hQ
        generalize L.getD F ⟨#[]⟩ = t at *
        obtain ⟨z, hz⟩ : ∃ z, cmpN t s = z := ⟨_, rfl⟩
        simp only [hz] at H hQ
        clear hz
        subst hQ
        go_wp2_with fail
        refine (H.out _).mono ?_
        rintro e w2 ⟨rfl, hx2⟩
        have HX2 := Lib.hid (HX.out.trans hx2)
        clear hx2 H hc
        go_wp2_with fail
        go_ret2
        refine ⟨?_, HX2.out⟩
        by_cases q : z = 0 <;> simp [q]
      · have hQ := HBO.out
        rw [decide_eq_false hFN, Bool.false_and] at hQ
        subst hQ
        have hFz : ¬ (F : Int) < (n : Int) := by omega
        go_wp2_with fail
        go_ret2
        exact ⟨rfl, HX.out⟩
theorem evens_len : ∀ (L : List Int), 2 * (evensN L).length = L.length + L.length % 2
  | [] => rfl
  | [k] => rfl
  | k :: m :: r => by
    have := evens_len r
    rw [evensN, List.length_cons, List.length_cons, List.length_cons]
    omega
theorem names_len {l : List Nd} (h : isN l 8 = true) : 2 * (namesN l).length = (ndAt l 0).kids.length := by
  have := evens_len (ndAt l 0).kids
  rw [root_even h] at this
  rw [namesN, h, if_pos rfl, List.length_map]
  omega
theorem root_len {l : List Nd} (hc : checkN l = 0) : (ndAt l 0).kids.length ≤ 65536 := by
  obtain ⟨h0, hn, E, D, hsh, -⟩ := check_zero hc
  obtain ⟨-, -, -, -, hE⟩ := shape_some hsh
  have h9 := (hE 0 h0).2
  have e : kidsAt l 0 = (ndAt l 0).kids := by
    have := ndAt_nat l 0 h0
    rw [show ((0 : Nat) : Int) = 0 from rfl] at this
    rw [this, kidsAt, List.getElem?_eq_getElem h0]
  rw [e] at h9
  omega
theorem names_small (l : List Nd) : (namesN l).length ≤ 65536 := by
  cases h : isN l 8 with
  | false => rw [namesN, h]; simp
  | true =>
    have h1 := names_len h
    have h2 := root_len (is_facts h).1
    omega
set_option maxRecDepth 100000 in
set_option maxHeartbeats 2000000 in
theorem find_walk (v : Value) (l : List Nd) (s : ByteArray) (w : World) (h : NodesAt w v l) (hl : Lt l) :
    Calls Tryd.prog 51 #[v, .string s] w fun e w' => e = .returned (.tuple #[.int .i64 (findN (namesN l) s : Nat), .bool (foundN (namesN l) s)]) ∧ Ext [] w w' := by
  have HN := Lib.hid (names_walk v l w h hl)
  have hsm := names_small l
  generalize namesN l = L at *
  have HB := Lib.hid (fun (u : Value) (W : World) (hu : StrsAt W u L) => bin_walk u L s W hu (by omega))
  obtain ⟨base, cap, rfl, -, -⟩ := h
  obtain ⟨F, hF⟩ : ∃ F, findN L s = F := ⟨_, rfl⟩
  obtain ⟨Bo, hBo⟩ : ∃ Bo, foundN L s = Bo := ⟨_, rfl⟩
  simp only [hF, hBo] at HB ⊢
  clear hF hBo hsm
  go_enter Tryd.func51, Tryd.ntmps51
  go_wp2_with fail
  refine HN.out.mono ?_
  rintro e w1 ⟨v2, rfl, hx, hS⟩
  have HB2 := Lib.hid (HB.out v2 w1 hS)
  have HX := Lib.hid hx
  clear hx hS HB HN
  go_wp2_with fail
  refine HB2.out.mono ?_
  rintro e w2 ⟨rfl, hx2⟩
  have HX2 := Lib.hid (HX.out.trans hx2)
  clear hx2 HB2 HX
  go_wp2_with fail
  go_ret2
  exact ⟨rfl, HX2.out⟩
/-- what Get tells -/
def getN (l : List Nd) (s : ByteArray) : Option (List Nd) := if foundN (namesN l) s then some (subN l ((ndAt l 0).kids.getD (2 * findN (namesN l) s + 1) 0).toNat) else none
set_option maxRecDepth 100000 in
set_option maxHeartbeats 2000000 in
theorem get_walk (v : Value) (l : List Nd) (s : ByteArray) (w : World) (h : NodesAt w v l) (hl : Lt l) :
    Calls Tryd.prog 25 #[v, .string s] w fun e w' => ∃ v2, e = .returned (.tuple #[v2, .bool (getN l s).isSome]) ∧ Ext [] w w' ∧ NodesAt w' v2 ((getN l s).getD []) := by
  have HF := Lib.hid (find_walk v l s w h hl)
  cases hfo : foundN (namesN l) s with
  | false =>
    rw [hfo] at HF
    have hR : getN l s = none := by rw [getN, hfo]; rfl
    rw [hR]
    obtain ⟨base, cap, rfl, -, -⟩ := h
    obtain ⟨F, hF⟩ : ∃ F, findN (namesN l) s = F := ⟨_, rfl⟩
    rw [hF] at HF
    clear hR hfo hF
    go_enter Tryd.func25, Tryd.ntmps25
    go_wp2_with fail
    refine HF.out.mono ?_
    rintro e w1 ⟨rfl, hx⟩
    have HX := Lib.hid hx
    clear hx HF
    go_wp2_with fail
    go_ret2
    exact ⟨_, rfl, HX.out, none, 0, rfl, by simp, fun k hk => by cases hk⟩
  | true =>
  rw [hfo] at HF
  obtain ⟨F, hF⟩ : ∃ F, findN (namesN l) s = F := ⟨_, rfl⟩
  have hlt : F < (namesN l).length := by
    have := hfo
    rw [foundN, hF, Bool.and_eq_true] at this
    simpa using this.1
  have his : isN l 8 = true := by
    cases h8 : isN l 8 with
    | true => rfl
    | false => rw [namesN, h8] at hlt; simp at hlt
  obtain ⟨hc, -⟩ := is_facts his
  have hnl := names_len his
  have hrl := root_len hc
  have hrk := root_kids hc
  obtain ⟨h0, hn, E, D, hsh, -⟩ := check_zero hc
  have hkl : 2 * F + 1 < (ndAt l 0).kids.length := by omega
  have hcb := hrk (2 * F + 1) _ (List.getElem?_eq_getElem hkl)
  have hgd : (ndAt l 0).kids.getD (2 * F + 1) 0 = (ndAt l 0).kids[2 * F + 1]'hkl := by rw [List.getD_eq_getElem?_getD, List.getElem?_eq_getElem hkl]; rfl
  obtain ⟨k, hk⟩ : ∃ k : Nat, (ndAt l 0).kids[2 * F + 1]'hkl = (k : Int) := ⟨((ndAt l 0).kids[2 * F + 1]'hkl).toNat, by omega⟩
  have hR : getN l s = some (subN l k) := by rw [getN, hfo, if_pos rfl, hF, hgd, hk, Int.toNat_natCast]
  rw [hR]
  rw [hk] at hcb
  rw [hF] at HF
  have HSub := Lib.hid (fun W (hx : Ext [] w W) => sub_walk v l W (h.ext hx) k (by omega) hn (by rw [hsh]; simp))
  obtain ⟨base, cap, rfl, -, hN⟩ := h
  obtain ⟨b, o, rfl, hnd⟩ := node_in hN 0 h0
  rw [Nat.zero_mul, Nat.add_zero, show ((0 : Nat) : Int) = 0 from rfl] at hnd
  obtain ⟨-, -, -, -, -, rb, rc, r5, r6⟩ := hnd
  obtain ⟨b5, o5, rfl, c5⟩ := r6 (2 * F + 1) hkl
  rw [hk] at c5
  obtain ⟨K, hK⟩ : ∃ K, (ndAt l 0).kids.length = K := ⟨_, rfl⟩
  rw [hK] at r5 hkl hrl
  obtain ⟨n, hln⟩ : ∃ n, l.length = n := ⟨_, rfl⟩
  rw [hln] at HF HSub h0 ⊢
  have h0z : (0 : Int) < (n : Int) := by omega
  have hkz : 2 * (F : Int) + 1 < (K : Int) := by omega
  have HC := Lib.hid (⟨r5, c5⟩ : _ ∧ _)
  clear hR hfo hF hlt his hc hnl hrk hn hsh hcb hgd hk hN r5 c5 r6 hK hln hl h0
  go_enter Tryd.func25, Tryd.ntmps25
  go_wp2_with fail
  refine HF.out.mono ?_
  rintro e w1 ⟨rfl, hx⟩
  have HX := Lib.hid hx
  have HS2 := Lib.hid (HSub.out w1 hx)
  have r5 := hx.cell HC.out.1
  have c5 := hx.cell HC.out.2
  clear hx HF HSub HC
  go_wp2_with fail
  refine HS2.out.mono ?_
  rintro e w2 ⟨v2, rfl, hx2, hN2⟩
  have HX2 := Lib.hid (⟨HX.out.trans hx2, hN2⟩ : _ ∧ _)
  clear hx2 hN2 HS2 HX r5 c5
  go_wp2_with fail
  go_ret2
  exact ⟨_, rfl, HX2.out.1, HX2.out.2⟩
end Go.Proofs.YtkjcjklnclahdaaDoor.Tr
