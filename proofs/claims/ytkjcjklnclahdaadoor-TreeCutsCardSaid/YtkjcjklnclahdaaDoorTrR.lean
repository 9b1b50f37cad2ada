/-
  tree: Dict walked.
-/
import Derived.Test.YtkjcjklnclahdaaDoorTrQ
namespace Go.Proofs.YtkjcjklnclahdaaDoor.Tr
open Go.RowKit

def StrsAt (w : World) (v : Value) (l : List ByteArray) : Prop := ∃ base cap, v = .slice base l.length cap ∧ l.length ≤ cap ∧ ∀ i (h : i < l.length), ∃ b o, base = some ⟨b, o, none⟩ ∧ w.cell? ⟨b, o + i, none⟩ = some (.string (l[i]'h))
theorem StrsAt.ext {w w' : World} {v : Value} {l : List ByteArray} (h : StrsAt w v l) (hx : Ext [] w w') : StrsAt w' v l := by
  obtain ⟨base, cap, h1, h0, h2⟩ := h
  refine ⟨base, cap, h1, h0, fun i hi => ?_⟩
  obtain ⟨b, o, h3, h4⟩ := h2 i hi
  exact ⟨b, o, h3, hx.cell h4⟩
def badF : List ByteArray → Nat → Int
  | [], _ => -1
  | s :: r, k => if nameN s = 0 then badF r (k + 1) else k
theorem badF_any : ∀ (l : List ByteArray) (k : Nat), (badF l k ≥ 0) ↔ l.any (fun s => decide (nameN s ≠ 0)) = true
  | [], k => by simp [badF]
  | s :: r, k => by
    rw [badF, List.any_cons]
    by_cases h : nameN s = 0
    · rw [if_pos h, badF_any r]; simp [h]
    · rw [if_neg h]; simp [h]
set_option maxRecDepth 100000 in
set_option maxHeartbeats 2000000 in
theorem bad1_walk (s : ByteArray) (w : World) : Calls Tryd.prog 40 #[.string s] w fun e w' => e = .returned (.bool (nameN s != 0)) ∧ Ext [] w w' := by
  have H := Lib.hid (fun w => name_walk s w)
  generalize nameN s = z at *
  go_enter Tryd.func40, Tryd.ntmps40
  go_wp2_with fail
  refine (H.out _).mono ?_
  rintro e w' ⟨rfl, hx⟩
  have HX := Lib.hid hx
  clear hx
  go_wp2_with fail
  go_ret
  exact ⟨rfl, HX.out⟩
set_option maxRecDepth 100000 in
set_option maxHeartbeats 8000000 in
theorem idx_walk (v : Value) (l : List ByteArray) (w : World) (h : StrsAt w v l) (hl : l.length ≤ 1048576) :
    Calls Tryd.prog 60 #[v, .func (.func 40) #[] #[]] w fun e w' => e = .returned (.int .i64 (badF l 0)) ∧ Ext [] w w' := by
  obtain ⟨base, cap, rfl, -, hT⟩ := h
  obtain ⟨n, hln⟩ : ∃ n, l.length = n := ⟨_, rfl⟩
  obtain ⟨R, hR⟩ : ∃ R, badF l 0 = R := ⟨_, rfl⟩
  have HH := Lib.hid (⟨hT, hln, hR⟩ : _ ∧ _ ∧ _)
  rw [hR]
  rw [hln] at hl ⊢
  clear hT hln hR
  go_enter Tryd.func60, Tryd.ntmps60
  go_wp2_with fail
  go_loopg [4, 5, 8] n (fun g v4 v5 iv wr => ∃ i : Nat, g + i = n ∧ iv = .int .i64 i ∧ badF (l.drop i) i = R ∧ Ext [] w wr)
  case atStart => exact ⟨0, by omega, rfl, HH.out.2.2, Ext.refl _ _⟩
  case round =>
    obtain ⟨i, hgi, rfl, hR, hx⟩ := hrel
    by_cases hlt : i < n
    · obtain ⟨g, rfl⟩ : ∃ g, gk = g + 1 := ⟨gk - 1, by omega⟩
      have hltz : (i : Int) < (n : Int) := by omega
      have hil : i < l.length := by rw [HH.out.2.1]; exact hlt
      rw [drop_at l i hil, badF] at hR
      obtain ⟨b, o, rfl, hc⟩ := HH.out.1 i hil
      have hc := hx.cell hc
      generalize l[i]'hil = s at *
      have H := Lib.hid (fun w => bad1_walk s w)
      have HX := Lib.hid (⟨hx, hR⟩ : _ ∧ _)
      clear hx hR
      generalize nameN s = z at *
      go_wp2_with fail
      refine (H.out _).mono ?_
      rintro ee w2 ⟨rfl, hx2⟩
      have HX2 := Lib.hid (HX.out.1.trans hx2)
      clear hx2 H hc
      by_cases he : z = 0
      · subst he
        go_wp2_with fail
        go_roundg g
        case measure => omega
        case rel => exact ⟨i + 1, by omega, by go_num, by simpa using HX.out.2, HX2.out⟩
      · have heb : (z != 0) = true := bne_iff_ne.2 he
        have hR : R = (i : Int) := by have := HX.out.2; rw [if_neg he] at this; exact this.symm
        subst hR
        go_wp2_with fail
        go_ret
        exact ⟨rfl, HX2.out⟩
    · obtain rfl : gk = 0 := by omega
      have hR0 : R = -1 := by rw [← hR, List.drop_eq_nil_of_le (by rw [HH.out.2.1]; omega)]; rfl
      subst hR0
      have HX := Lib.hid hx
      clear hx hR
      go_wp2_with fail
      go_ret
      exact ⟨rfl, HX.out⟩
set_option maxRecDepth 100000 in
set_option maxHeartbeats 8000000 in
theorem cont_walk (v : Value) (l : List ByteArray) (w : World) (h : StrsAt w v l) (hl : l.length ≤ 1048576) :
    Calls Tryd.prog 39 #[v, .func (.func 40) #[] #[]] w fun e w' => e = .returned (.bool (l.any (fun s => decide (nameN s ≠ 0)))) ∧ Ext [] w w' := by
  have H := Lib.hid (idx_walk v l w h hl)
  have hb := badF_any l 0
  obtain ⟨z, hz⟩ : ∃ z, badF l 0 = z := ⟨_, rfl⟩
  rw [hz] at H hb
  have hB : l.any (fun s => decide (nameN s ≠ 0)) = decide (0 ≤ z) := by
    rw [Bool.eq_iff_iff, ← hb]; simp
  rw [hB]
  obtain ⟨base, cap, rfl, -, -⟩ := h
  clear hz hb hB
  go_enter Tryd.func39, Tryd.ntmps39
  go_wp2_with fail
  refine H.out.mono ?_
  rintro ee w2 ⟨rfl, hx2⟩
  have HX2 := Lib.hid hx2
  clear hx2 H
  go_wp2_with fail
  go_ret
  exact ⟨rfl, HX2.out⟩
def dictionN (names : List ByteArray) (ls : List (List Nd)) : List Nd × Int :=
  if names.length ≠ ls.length ∨ names.any (fun s => decide (nameN s ≠ 0)) = true then ([], 2) else if firstN ls ≠ 0 then ([], firstN ls) else dictN (names.zip ls)
end Go.Proofs.YtkjcjklnclahdaaDoor.Tr
