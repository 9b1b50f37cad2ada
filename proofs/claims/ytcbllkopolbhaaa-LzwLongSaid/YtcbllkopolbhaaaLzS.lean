/-
  kit.Same at ints; the chapter's example (lzw).
-/
import Derived.Test.YtcbllkopolbhaaaLzQ
import Derived.Test.YtcbllkopolbhaaaBitsVal
namespace Go.Proofs.Ytcbllkopolbhaaa.Lz
open Go.RowKit Go.Maps

theorem row_shape {w : World} {base : Nat} {e : TypeId} {n : Nat} {v : Value} {xs : List Value} (h : w.ownsRow base e 1 v n xs) : ∃ ao cap, v = .slice ao n cap := by
  rcases h.2 with ⟨h0, hx⟩ | ⟨g, cap, cur, rfl, _⟩
  · have h1 := h.1
    rw [hx] at h1
    obtain rfl : n = 0 := by simp at h1; omega
    exact ⟨none, 0, h0⟩
  · exact ⟨_, cap, rfl⟩
theorem row_le {w : World} {base : Nat} {e : TypeId} {n : Nat} {v : Value} {xs : List Value} (h : w.ownsRow base e 1 v n xs) : n ≤ 9223372036854775807 := by
  rcases h.2 with ⟨h0, hx⟩ | ⟨g, cap, cur, rfl, _, _, h1, h2, _⟩
  · have h1 := h.1
    rw [hx] at h1
    obtain rfl : n = 0 := by simp at h1; omega
    omega
  · unfold maxLen at h2; omega
set_option maxRecDepth 100000 in
set_option maxHeartbeats 8000000 in
theorem same_any (va vb : Value) (xs ys : List Nat) (w : World) (hA : w.ownsRow 0 3 1 va xs.length (xs.map iv)) (hB : w.ownsRow 0 3 1 vb ys.length (ys.map iv)) :
    Calls Try.prog 14 #[va, vb] w fun e w' => e = .returned (.bool (decide (xs = ys))) ∧ Ext [] w w' := by
  have hla := row_le hA
  have hlb := row_le hB
  obtain ⟨aa, ca, rfl⟩ := row_shape hA
  obtain ⟨ab, cb, rfl⟩ := row_shape hB
  by_cases hne : xs.length = ys.length
  · have HN := Lib.hid hne
    have hne1 : decide (xs.length = ys.length) = true := by simpa using hne
    have hne2 : (xs.length == ys.length) = true := by simpa using hne
    have hne3 : ((xs.length : Int) == (ys.length : Int)) = true := by rw [hne]; simp
    have hne4 : ((xs.length : Int) != (ys.length : Int)) = false := by rw [hne]; simp
    clear hne
    go_enter Try.func14, Try.ntmps14
    go_wp2_with fail
    clear hne1 hne2 hne3 hne4
    go_loopg [5] xs.length (fun gg i wr => ∃ k : Nat, gg + k = xs.length ∧ i = .int .i64 k ∧ xs.take k = ys.take k ∧ Ext [] w wr)
    case atStart => exact ⟨0, by omega, rfl, rfl, Ext.refl _ _⟩
    case round =>
      obtain ⟨k, hk, rfl, ht, hx⟩ := hrel
      have HT := Lib.hid ht
      have HX := Lib.hid hx
      clear ht
      by_cases hlt : k < xs.length
      · have hlt2 : k < ys.length := by have := HN.out; omega
        obtain ⟨ga, ca', hv⟩ := row_form hA (by omega)
        obtain ⟨rfl, rfl⟩ : aa = some ⟨ga, 0, none⟩ ∧ ca = ca' := by simpa using hv
        obtain ⟨gb, cb', hv⟩ := row_form hB (by omega)
        obtain ⟨rfl, rfl⟩ : ab = some ⟨gb, 0, none⟩ ∧ cb = cb' := by simpa using hv
        clear hv
        have q1 : wr.cell? ⟨ga, k, none⟩ = some (.int .i64 (xs[k] : Nat)) := ownsRow_at (ownsRow_ext hA hx (by simp)) (by simp [hlt, iv])
        have q2 : wr.cell? ⟨gb, k, none⟩ = some (.int .i64 (ys[k] : Nat)) := ownsRow_at (ownsRow_ext hB hx (by simp)) (by simp [hlt2, iv])
        have i1 : (0 : Int) ≤ (k : Int) := by omega
        have i2 : (k : Int) < (xs.length : Int) := by omega
        have i3 : (k : Int) < (ys.length : Int) := by omega
        clear hx hA hB
        generalize hxk : xs[k] = x at q1
        generalize hyk : ys[k] = y at q2
        have HXK := Lib.hid hxk
        have HYK := Lib.hid hyk
        clear hxk hyk
        by_cases hxy : x = y
        · subst hxy
          go_wp2_with fail
          go_quiet (fail)
          go_wp2_with fail
          go_roundg (xs.length - (k + 1))
          case measure => omega
          case rel => exact ⟨k + 1, by omega, by go_num, by rw [List.take_succ_eq_append_getElem hlt, List.take_succ_eq_append_getElem hlt2, HT.out, HXK.out, HYK.out], HX.out.drewN _⟩
        · have n1 : ((x : Int) != (y : Int)) = true := by simp; omega
          have n2 : ((x : Int) == (y : Int)) = false := by simp; omega
          have hd : decide (xs = ys) = false := decide_eq_false fun h => by
            subst h
            exact hxy (HXK.out.symm.trans HYK.out)
          have HD := Lib.hid hd
          clear hd
          go_wp2_with fail
          go_quiet (fail)
          go_wp2_with fail
          go_ret
          exact ⟨by rw [HD.out]; rfl, HX.out.drewN _⟩
      · have hd : decide (xs = ys) = true := decide_eq_true (by
          have h := HT.out
          have hn := HN.out
          rwa [List.take_of_length_le (by omega), List.take_of_length_le (by omega)] at h)
        have HD := Lib.hid hd
        clear hd
        go_wp2_with fail
        go_ret
        exact ⟨by rw [HD.out]; rfl, HX.out⟩
  · have hd : decide (xs = ys) = false := decide_eq_false fun h => hne (by rw [h])
    rw [hd]
    have hne3 : ((xs.length : Int) == (ys.length : Int)) = false := by simp; omega
    have hne4 : ((xs.length : Int) != (ys.length : Int)) = true := by simp; omega
    go_enter Try.func14, Try.ntmps14
    go_wp2_with fail
    go_ret
    exact ⟨rfl, Ext.refl _ _⟩
def tb4 : ByteArray := ⟨#[97, 97, 97, 98]⟩
theorem codes4 : codes (tailB ⟨#[97, 97, 97, 98]⟩ 0) = [256, 97, 258, 98, 257] := by decide
set_option maxHeartbeats 4000000 in
theorem lives14 (w : World) : Calls Try.prog 9 #[] w fun e w' => e = .returned (.bool true) ∧ Ext [] w w' := by
  have S := Sep.start w
  go_enter Try.func9, Try.ntmps9
  go_wp2_with fail
  refine (sCodes ⟨#[97, 97, 97, 98]⟩ (by decide) S).mono ?_; clear S; rintro e w1 ⟨v, rfl, S⟩
  rw [codes4] at S
  have hB : (w1.alloc (.cells #[iv 256, iv 97, iv 258, iv 98, iv 257] 3 (0, 0))).ownsRow 0 3 1 (.slice (some ⟨w1.heap.size, 0, none⟩) 5 5) 5 ([256, 97, 258, 98, 257].map iv) :=
    ⟨rfl, .inr ⟨w1.heap.size, 5, _, rfl, Nat.zero_le _, heap_alloc_at _, Nat.le_refl _, by unfold maxLen; omega, rfl, rfl⟩⟩
  have HS := Lib.hid S
  have HB := Lib.hid hB
  clear S hB
  go_wp2_with fail
  refine (same_any v _ [256, 97, 258, 98, 257] [256, 97, 258, 98, 257] _ ((HS.out.get 0 rfl).alloc _) HB.out).mono ?_
  rintro e w2 ⟨rfl, hx⟩
  go_wp2_with fail
  go_ret
  exact ⟨rfl, (HS.out.ext.alloc _).trans hx⟩
end Go.Proofs.Ytcbllkopolbhaaa.Lz
