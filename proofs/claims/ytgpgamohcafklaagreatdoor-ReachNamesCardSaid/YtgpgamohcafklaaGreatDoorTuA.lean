/-
  The document's Array walked.
-/
import Derived.Test.YtgpgamohcafklaaGreatDoorTtZ
namespace Go.Proofs.YtgpgamohcafklaaGreatDoor.Tr
open Go.RowKit

set_option maxRecDepth 100000 in
set_option maxHeartbeats 4000000 in
theorem array17_walk (v : Value) (ls : List (List Nd)) (w : World) (h : TreesAt w v ls) (hn : ls.length ≤ 65536) (hls : light6 ls) :
    Calls Tryz.prog 11 #[v] w fun e w' => ∃ v2, e = .returned (.tuple #[v2, .int .i64 (arrayN ls).2]) ∧ Ext [] w w' ∧ NodesAt w' v2 (arrayN ls).1 := by
  have HU := Lib.hid (fun w1 (hx : Ext [] w w1) (h0 : firstN ls = 0) => put17_walk 7 v ls w1 (h.ext hx) hn (fun l hl => (hls l hl).2) (firstN_zero h0))
  obtain ⟨base, cap, rfl, -, hT⟩ := h
  obtain ⟨n, hln⟩ : ∃ n, ls.length = n := ⟨_, rfl⟩
  obtain ⟨F, hF⟩ : ∃ F, firstN ls = F := ⟨_, rfl⟩
  obtain ⟨R, hR⟩ : ∃ R, arrayN ls = R := ⟨_, rfl⟩
  have HH := Lib.hid (⟨hT, hls, hln, hF, hR⟩ : _ ∧ _ ∧ _ ∧ _ ∧ _)
  rw [hR]
  rw [hln] at hn HU ⊢
  clear hT hls hln hF hR
  go_enter Tryz.func11, Tryz.ntmps11
  go_wp2_with fail
  go_loopg [4] n (fun g iv wr => ∃ i : Nat, g + i = n ∧ iv = .int .i64 i ∧ firstN (ls.drop i) = F ∧ Ext [] w wr)
  case atStart => exact ⟨0, by omega, rfl, HH.out.2.2.2.1, Ext.refl _ _⟩
  case round =>
    obtain ⟨i, hgi, rfl, hR, hx⟩ := hrel
    by_cases hlt : i < n
    · obtain ⟨g, rfl⟩ : ∃ g, gk = g + 1 := ⟨gk - 1, by omega⟩
      have hltz : (i : Int) < (n : Int) := by omega
      have hil : i < ls.length := by rw [HH.out.2.2.1]; exact hlt
      rw [drop_at ls i hil, firstN] at hR
      obtain ⟨b, o, vk, rfl, hc, hN⟩ := HH.out.1.ext hx i hil
      obtain ⟨h1, h2⟩ := HH.out.2.1 _ (List.getElem_mem hil)
      have HC := Lib.hid (check17_walk vk _ wr hN h1 h2)
      have HX := Lib.hid (⟨hx, hR⟩ : _ ∧ _)
      clear hx hR hN h1 h2
      generalize checkN (ls[i]'hil) = e at HC HX
      go_wp2_with fail
      refine HC.out.mono ?_
      rintro ee w2 ⟨rfl, hx2⟩
      have HX2 := Lib.hid (HX.out.1.trans hx2)
      clear hx2 HC hc
      by_cases he : e = 0
      · subst he
        go_wp2_with fail
        go_roundg g
        case measure => omega
        case rel => exact ⟨i + 1, by omega, by go_num, by simpa using HX.out.2, HX2.out⟩
      · have heb : (e != 0) = true := bne_iff_ne.2 he
        have hFe : F = e := by have := HX.out.2; rw [if_neg he] at this; exact this.symm
        have hR : R = ([], e) := by rw [← HH.out.2.2.2.2, arrayN, HH.out.2.2.2.1, hFe, if_neg he]
        subst hR
        go_wp2_with fail
        go_ret2
        exact ⟨_, rfl, HX2.out, none, 0, rfl, by simp, fun k hk => by cases hk⟩
    · obtain rfl : gk = 0 := by omega
      have hF0 : F = 0 := by rw [← hR, List.drop_eq_nil_of_le (by rw [HH.out.2.2.1]; omega)]; rfl
      have hR2 : R = underN 7 ls := by rw [← HH.out.2.2.2.2, arrayN, HH.out.2.2.2.1, if_pos hF0]
      have HP := Lib.hid (HU.out _ hx (by rw [HH.out.2.2.2.1, hF0]))
      rw [← hR2] at HP
      have HX := Lib.hid hx
      clear hx hR hR2
      go_wp2_with fail
      refine HP.out.mono ?_
      rintro ee w2 ⟨v2, rfl, hx2, hN⟩
      have HX2 := Lib.hid (⟨HX.out.trans hx2, hN⟩ : _ ∧ _)
      clear hx2 hN HP HX
      go_wp2_with fail
      go_ret2
      exact ⟨_, rfl, HX2.out.1, HX2.out.2⟩
end Go.Proofs.YtgpgamohcafklaaGreatDoor.Tr
