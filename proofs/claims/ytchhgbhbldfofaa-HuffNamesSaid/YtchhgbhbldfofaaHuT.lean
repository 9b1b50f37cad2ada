/-
  huff's Table: Write walked.
-/
import Derived.Test.YtchhgbhbldfofaaHuO
namespace Go.Proofs.Ytchhgbhbldfofaa.Hu
open Go.RowKit Bt

/-- the lowest n bits of c, the upper one first -/
def cbits (c : Nat) : Nat → List Nat
  | 0 => []
  | n + 1 => c / 2 ^ n % 2 :: cbits c n
theorem cbits_len (c : Nat) : ∀ n, (cbits c n).length = n
  | 0 => rfl
  | n + 1 => by rw [cbits, List.length_cons, cbits_len c n]
theorem bitsOf_one (hi : Bool) (v : Nat) (h : v ≤ 1) : bitsOf hi v 1 = [v] := by
  unfold bitsOf
  have : v % 2 = v := by omega
  cases hi <;> simp [List.range_succ, this]
theorem twrite_nil (v : Value) (s : Int) (w : World) (hv : ∃ p, v = .pointer p) : Calls Try.prog 22 #[.pointer none, v, .int .i64 s] w fun e w' => e = .returned (.int .i64 1) ∧ w = w' := by
  obtain ⟨p, rfl⟩ := hv
  go_enter Try.func22, Try.ntmps22
  go_wp2_with fail
  go_ret
  exact ⟨rfl, rfl⟩
theorem twrite_nil2 (tb : Nat) (s : Int) (w : World) : Calls Try.prog 22 #[.pointer (some ⟨tb, 0, none⟩), .pointer none, .int .i64 s] w fun e w' => e = .returned (.int .i64 1) ∧ w = w' := by
  go_enter Try.func22, Try.ntmps22
  go_wp2_with fail
  go_ret
  exact ⟨rfl, rfl⟩
theorem set_get {α : Type} {L : List α} {i j : Nat} {x y : α} (hij : i ≠ j) (h : L[i]? = some x) : (L.set j y)[i]? = some x := by
  rw [List.getElem?_set_ne (Ne.symm hij), h]
theorem set_self {α : Type} {L : List α} {j : Nat} {x y : α} (h : L[j]? = some x) : (L.set j y)[j]? = some y :=
  List.getElem?_set_self (List.getElem?_eq_some_iff.1 h).1
theorem set_same {α : Type} {L : List α} {i : Nat} {x : α} (h : L[i]? = some x) : L.set i x = L := by
  apply List.ext_getElem?
  intro k
  by_cases hk : i = k
  · subst hk; rw [List.getElem?_set_self (List.getElem?_eq_some_iff.1 h).1, h]
  · rw [List.getElem?_set_ne hk]
set_option maxRecDepth 100000 in
set_option maxHeartbeats 8000000 in
theorem sTWrite (i j : Nat) (hij : i ≠ j) {w0 w : World} {L : List Ob} {tb : Nat} {F : List Nat} {l : List Int} {b : Nat} {Fw bl : List Nat} {hi : Bool} (s : Int) (S : Sep w0 w L) (hT : L[i]? = some (oTab tb F l)) (hW : L[j]? = some (oW b Fw hi bl))
    (hl : l.length ≤ 288) (hr : ∀ x ∈ l, 0 ≤ x ∧ x ≤ 15) (hc : ∀ x ∈ codesN l, x < 65536) (hbl : bl.length < 2 ^ 38) :
    Calls Try.prog 22 #[.pointer (some ⟨tb, 0, none⟩), .pointer (some ⟨b, 0, none⟩), .int .i64 s] w fun e w' =>
      e = .returned (.int .i64 (if sizeZ l s = 0 then 2 else 0)) ∧ ∃ Fw', Sep w0 w' (L.set j (oW b Fw' hi (bl ++ cbits ((codesN l).getD s.toNat 0) (sizeZ l s).toNat))) := by
  have HSZ := Lib.hid (fun (w : World) (h : (oTab tb F l).P w) => size_walk tb F l s w h (by omega))
  have HS := Lib.hid S
  have HT := Lib.hid hT
  have HW := Lib.hid hW
  have hlen : (codesN l).length = l.length := codesF_len l _
  by_cases h0 : sizeZ l s = 0
  · rw [h0]
    have e3 : bl ++ cbits ((codesN l).getD s.toNat 0) (0 : Int).toNat = bl := List.append_nil _
    rw [e3, if_pos rfl]
    have e2 := set_same hW
    have HE := Lib.hid e2
    clear S hT hW hc hr e2 e3
    have hz := HSZ.out
    rw [h0] at hz
    have HZ := Lib.hid hz
    clear hz HSZ h0
    go_enter Try.func22, Try.ntmps22
    go_wp2_with fail
    refine (HZ.out _ (HS.out.get i HT.out)).mono ?_
    clear HZ
    rintro e w1 ⟨rfl, hx1⟩
    have HX := Lib.hid hx1
    clear hx1
    go_wp2_with fail
    go_ret
    exact ⟨rfl, Fw, by rw [HE.out]; exact HS.out.quiet HX.out⟩
  · have hs1 : ¬ (s < 0 ∨ (l.length : Int) ≤ s) := fun h => h0 (by unfold sizeZ; rw [if_pos h])
    obtain ⟨k, rfl⟩ : ∃ k : Nat, s = k := ⟨s.toNat, by omega⟩
    have hk : k < l.length := by omega
    obtain ⟨x, hx⟩ : ∃ x, l[k]? = some x := ⟨_, List.getElem?_eq_getElem hk⟩
    have e : sizeZ l k = x := by unfold sizeZ; rw [if_neg hs1, Int.toNat_natCast, List.getD_eq_getElem?_getD, hx]; rfl
    have hxr := hr x (List.mem_of_getElem? hx)
    obtain ⟨n, rfl⟩ : ∃ n : Nat, x = n := ⟨x.toNat, by omega⟩
    obtain ⟨c, hck⟩ : ∃ c, (codesN l)[k]? = some c := ⟨_, List.getElem?_eq_getElem (by omega)⟩
    have hc2 := hc c (List.mem_of_getElem? hck)
    have e3 : (codesN l).getD k 0 = c := by rw [List.getD_eq_getElem?_getD, hck]; rfl
    rw [e] at h0 HSZ ⊢
    rw [Int.toNat_natCast, Int.toNat_natCast, e3]
    have hn0 : 0 < n := by omega
    have hn15 : n ≤ 15 := by omega
    rw [if_neg h0]
    obtain ⟨R, hR⟩ : ∃ R, bl ++ cbits c n = R := ⟨_, rfl⟩
    rw [hR]
    have hRl : R.length < 2 ^ 38 + 16 := by rw [← hR, List.length_append, cbits_len]; omega
    have HR := Lib.hid (⟨hR, hRl⟩ : _ ∧ _)
    have HCK := Lib.hid (fun (w : World) (h : (oTab tb F l).P w) => (by
      obtain ⟨vl, vc, vs, hb, h1, h2, h3, _⟩ := h
      obtain ⟨g, cap, rfl⟩ := own_at h2 (by omega)
      exact ⟨g, l.length, cap, cellOf hb 1, hk, ownsRow_at h2 (by rw [List.getElem?_map, hck]; rfl)⟩ : ∃ g n cap, w.cell? ⟨tb, 1, none⟩ = some (.slice (some ⟨g, 0, none⟩) n cap) ∧ k < n ∧ w.cell? ⟨g, k, none⟩ = some (u32v c)))
    have hnn : ¬ ((n : Int) = 0) := by omega
    have HN := Lib.hid hnn
    have hnb : ((n : Int) == 0) = false := beq_eq_false_iff_ne.2 hnn
    clear S hT hW hc hr e e3 hx hck hs1 hlen hxr hR hRl h0 hnn
    go_enter Try.func22, Try.ntmps22
    go_wp2_with fail
    refine (HSZ.out _ (HS.out.get i HT.out)).mono ?_
    clear HSZ
    rintro e w1 ⟨rfl, hx1⟩
    have HS := Lib.hid (HS.out.quiet hx1)
    clear hx1
    go_wp2_with fail
    clear hnb
    go_loopg [8] n (fun g iv wr => ∃ (x : Int) (Fw' bl' : List Nat), x = (g : Int) - 1 ∧ g ≤ n ∧ iv = .int .i64 x ∧ bl' ++ cbits c g = R ∧ Sep w0 wr (L.set j (oW b Fw' hi bl')))
    case atStart => exact ⟨_, Fw, bl, rfl, Nat.le_refl _, by go_num, HR.out.1, by rw [set_same HW.out]; exact HS.out⟩
    case round =>
      clear HS
      obtain ⟨x, Fw', bl', hx, hgn, rfl, hR, S⟩ := hrel
      cases gk with
      | zero =>
        obtain rfl : x = -1 := by omega
        clear hx hgn
        have HF := Lib.hid (⟨by rw [cbits, List.append_nil] at hR; exact hR, S⟩ : bl' = R ∧ Sep w0 wr (L.set j (oW b Fw' hi bl')))
        clear hR S
        go_wp2_with fail
        go_ret
        exact ⟨by first | rfl | simp, Fw', by have h := HF.out.2; rw [HF.out.1] at h; exact h⟩
      | succ m =>
        obtain rfl : x = (m : Int) := by omega
        clear hx
        obtain ⟨g, n2, cap, c1, hkn, c2⟩ := HCK.out wr (S.get i (set_get hij HT.out))
        have hbd : bl'.length < 2 ^ 39 := by
          have h1 := HR.out.2
          rw [← hR, List.length_append] at h1
          omega
        rw [cbits] at hR
        have hp : c / 2 ^ m < 65536 := Nat.lt_of_le_of_lt (Nat.div_le_self _ _) hc2
        have h16 := u32_and_one (c / 2 ^ m) (by omega)
        obtain ⟨q, hq⟩ : ∃ q, c / 2 ^ m % 2 = q := ⟨_, rfl⟩
        rw [hq] at hR h16
        rw [show ((c / 2 ^ m : Nat) : Int) = (c : Int) / 2 ^ m from by push_cast; rfl] at h16
        have hq1 : q ≤ 1 := by omega
        have HF := Lib.hid (⟨hR, S, hbd, hq1⟩ : _ ∧ _ ∧ _ ∧ _)
        clear hR S hbd hp hq hq1
        go_wp2_with fail
        refine (sPut j (n := 1) (v := q) HF.out.2.1 (set_self HW.out) HF.out.2.2.1 (by have := HF.out.2.2.2; omega) (by omega) (by have := HF.out.2.2.2; omega)).mono ?_
        rintro e w9 ⟨rfl, Fw2, S⟩
        rw [List.set_set, bitsOf_one hi q HF.out.2.2.2] at S
        have HS := Lib.hid S
        clear S
        go_wp2_with fail
        go_roundg m
        case measure => omega
        case rel => exact ⟨_, Fw2, bl' ++ [q], rfl, by omega, by go_num, by rw [← List.append_cons]; exact HF.out.1, HS.out⟩
end Go.Proofs.Ytchhgbhbldfofaa.Hu
