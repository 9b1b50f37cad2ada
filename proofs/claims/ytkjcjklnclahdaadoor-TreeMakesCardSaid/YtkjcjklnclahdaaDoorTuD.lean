/-
  law17.TreeMakes walked.
-/
import Derived.Test.YtkjcjklnclahdaaDoorTuC
import Derived.Test.YtkjcjklnclahdaaDoorTtF
import Derived.Test.YtkjcjklnclahdaaDoorTtO
namespace Go.Proofs.YtkjcjklnclahdaaDoor.Tr
open Go.RowKit

set_option maxRecDepth 100000 in
set_option maxHeartbeats 4000000 in
theorem makes_law (u v : Value) (names : List ByteArray) (ls : List (List Nd)) (w : World) (hu : StrArg w u names) (hv : TreesArg w v ls) :
    Calls Tryd.prog 3 #[u, v] w fun e w' => e = .returned (.bool true) ∧ Ext [] w w' := by
  obtain ⟨hu, hun, hus⟩ := hu
  obtain ⟨hv, hvn, hvl⟩ := hv
  have H1 := Lib.hid lives_walk
  have H2 := Lib.hid (fun W (hx : Ext [] w W) => lightT_walk v ls 20 60 W (hv.ext hx) hvn hvl)
  obtain ⟨ub, uc, rfl, huc, hU⟩ := id hu
  obtain ⟨vb, vc, rfl, hvc, -⟩ := id hv
  obtain ⟨n, hn⟩ : ∃ n, names.length = n := ⟨_, rfl⟩
  obtain ⟨m, hm⟩ : ∃ m, ls.length = m := ⟨_, rfl⟩
  cases hlt : lightT ls 20 60 with
  | false =>
    rw [hlt] at H2
    rw [hn] at hun ⊢
    rw [hm] at hvn H2 ⊢
    clear hlt hu hv hus hvl huc hvc hn hm hU
    go_enter Tryd.func3, Tryd.ntmps3
    go_wp2_with fail
    refine (H1.out _).mono ?_
    rintro e w1 ⟨rfl, hx1⟩
    have HX1 := Lib.hid hx1
    clear hx1
    go_wp2_with fail
    refine (H2.out _ HX1.out).mono ?_
    rintro e w2 ⟨rfl, rfl⟩
    go_wp2_with fail
    go_ret
    exact ⟨rfl, HX1.out⟩
  | true =>
  rw [hlt] at H2
  obtain ⟨hm20, hll⟩ := lightT_facts hlt
  rw [hm] at hm20
  have hlg : light6 ls := fun l hl => ⟨by have := (hll l hl).1; omega, fun x hx => by have := (hll l hl).2 x hx; omega⟩
  by_cases hn20 : 20 < n
  · have hnz : (20 : Int) < (n : Int) := by omega
    rw [hn] at hun ⊢
    rw [hm] at hvn H2 ⊢
    clear hlt hu hv hus hvl huc hvc hn hm hU hll hlg
    go_enter Tryd.func3, Tryd.ntmps3
    go_wp2_with fail
    refine (H1.out _).mono ?_
    rintro e w1 ⟨rfl, hx1⟩
    have HX1 := Lib.hid hx1
    clear hx1
    go_wp2_with fail
    refine (H2.out _ HX1.out).mono ?_
    rintro e w2 ⟨rfl, rfl⟩
    go_wp2_with fail
    go_ret
    exact ⟨rfl, HX1.out⟩
  have hnz : ¬ (20 : Int) < (n : Int) := by omega
  have HH := Lib.hid (⟨hU, hn, hus, hlg⟩ : _ ∧ _ ∧ _ ∧ _)
  have HW := Lib.hid (fun W (hx : Ext [] w W) => array_walk _ ls W (hv.ext hx) (by omega) hlg)
  have HV := Lib.hid (fun W (hx : Ext [] w W) => array17_walk _ ls W (hv.ext hx) (by omega) hlg)
  have HD := Lib.hid (fun W (hx : Ext [] w W) (hs : ∀ s ∈ names, s.size ≤ 1000000) => dictX_walk _ _ names ls W (hu.ext hx) (hv.ext hx) (by omega) (by omega) hs hlg)
  have HE := Lib.hid (fun W (hx : Ext [] w W) (hs : ∀ s ∈ names, s.size ≤ 1000000) => dict17X_walk _ _ names ls W (hu.ext hx) (hv.ext hx) (by omega) (by omega) hs hlg)
  rw [hn] at hun HD HE ⊢
  rw [hm] at hvn H2 HW HV HD HE ⊢
  clear hlt hu hv hus hvl huc hvc hn hm hU hll hlg
  have hAl := array_len (ls := ls)
  have hDl : (dictionN names ls).1.length ≤ 65536 := by
    by_cases h : (dictionN names ls).2 = 0
    · obtain ⟨-, -, -, hc, he⟩ := diction_ok h
      rw [he]
      exact (check_zero hc).2.1
    · rw [diction_bad h]
      simp
  obtain ⟨A, hA⟩ : ∃ A, arrayN ls = A := ⟨_, rfl⟩
  obtain ⟨D, hD⟩ : ∃ D, dictionN names ls = D := ⟨_, rfl⟩
  rw [hA] at HW HV hAl
  rw [hD] at HD HE hDl
  obtain ⟨A1, A2⟩ := A
  obtain ⟨D1, D2⟩ := D
  simp only at HW HV HD HE hAl hDl
  clear hA hD
  go_enter Tryd.func3, Tryd.ntmps3
  go_wp2_with fail
  refine (H1.out _).mono ?_
  rintro e w1 ⟨rfl, hx1⟩
  have HX1 := Lib.hid hx1
  clear hx1
  go_wp2_with fail
  refine (H2.out _ HX1.out).mono ?_
  rintro e w2 ⟨rfl, rfl⟩
  go_wp2_with fail
  go_loopg [5] n (fun g iv wr => ∃ i : Nat, g + i = n ∧ iv = .int .i64 i ∧ (∀ k (h : k < names.length), k < i → (names[k]'h).size ≤ 300) ∧ wr = w1)
  case atStart => exact ⟨0, by omega, rfl, (fun k _ h => absurd h (by omega)), rfl⟩
  case round =>
    obtain ⟨i, hgi, rfl, hlow, rfl⟩ := hrel
    by_cases hlt : i < n
    · obtain ⟨g, rfl⟩ : ∃ g, gk = g + 1 := ⟨gk - 1, by omega⟩
      have hltz : (i : Int) < (n : Int) := by omega
      have hil : i < names.length := by rw [HH.out.2.1]; exact hlt
      obtain ⟨b5, o5, rfl, c5⟩ := HH.out.1 i hil
      have c5 := HX1.out.cell c5
      obtain ⟨nm, hnm⟩ : ∃ nm, names[i]'hil = nm := ⟨_, rfl⟩
      rw [hnm] at c5
      have HL := Lib.hid (⟨hlow, hnm⟩ : _ ∧ _)
      clear hlow hnm
      by_cases h300 : 300 < nm.size
      · have h3z : (300 : Int) < (nm.size : Int) := by omega
        go_wp2_with fail
        go_ret
        exact ⟨rfl, HX1.out⟩
      · have h3z : ¬ (300 : Int) < (nm.size : Int) := by omega
        go_wp2_with fail
        go_roundg g
        case measure => omega
        case rel =>
          refine ⟨i + 1, by omega, by go_num, fun k hk hki => ?_, rfl⟩
          rcases Nat.lt_or_eq_of_le (Nat.le_of_lt_succ hki) with h | h
          · exact HL.out.1 k hk h
          · subst h
            rw [HL.out.2]
            omega
    · obtain rfl : gk = 0 := by omega
      have hs : ∀ s ∈ names, s.size ≤ 1000000 := fun s hs => by
        obtain ⟨k, hk, rfl⟩ := List.mem_iff_getElem.1 hs
        have := hlow k hk (by rw [HH.out.2.1] at hk; omega)
        omega
      have HS := Lib.hid hs
      clear hs hlow
      go_wp2_with fail
      refine (HW.out _ HX1.out).mono ?_
      rintro e w3 ⟨v3, rfl, hx3, hN3⟩
      have HX3 := Lib.hid (⟨HX1.out.trans hx3, hN3⟩ : _ ∧ _)
      clear hx3 hN3
      go_wp2_with fail
      refine (HV.out _ HX3.out.1).mono ?_
      rintro e w4 ⟨v4, rfl, hx4, hN4⟩
      have HX4 := Lib.hid (⟨HX3.out.1.trans hx4, HX3.out.2.ext hx4, hN4⟩ : _ ∧ _ ∧ _)
      clear hx4 hN4
      go_wp2_with fail
      refine (HD.out _ HX4.out.1 HS.out).mono ?_
      rintro e w5 ⟨v5, rfl, hx5, hN5⟩
      have HX5 := Lib.hid (⟨HX4.out.1.trans hx5, HX4.out.2.1.ext hx5, HX4.out.2.2.ext hx5, hN5⟩ : _ ∧ _ ∧ _ ∧ _)
      clear hx5 hN5
      go_wp2_with fail
      refine (HE.out _ HX5.out.1 HS.out).mono ?_
      rintro e w6 ⟨v6, rfl, hx6, hN6⟩
      have HX6 := Lib.hid (⟨HX5.out.1.trans hx6, HX5.out.2.1.ext hx6, HX5.out.2.2.1.ext hx6, HX5.out.2.2.2.ext hx6, hN6⟩ : _ ∧ _ ∧ _ ∧ _ ∧ _)
      clear hx6 hN6
      go_wp2_with fail
      have HT := Lib.hid (lsame_walk _ _ _ _ _ HX6.out.2.1 HX6.out.2.2.1 (by omega) (by omega))
      rw [(sameL_iff A1 A1).2 rfl] at HT
      refine HT.out.mono ?_
      rintro e w7 ⟨rfl, hx7⟩
      have HX7 := Lib.hid (⟨HX6.out.1.trans hx7, HX6.out.2.2.2.1.ext hx7, HX6.out.2.2.2.2.ext hx7⟩ : _ ∧ _ ∧ _)
      clear hx7 HT
      go_wp2_with fail
      have HT := Lib.hid (lsame_walk _ _ _ _ _ HX7.out.2.1 HX7.out.2.2 (by omega) (by omega))
      rw [(sameL_iff D1 D1).2 rfl] at HT
      refine HT.out.mono ?_
      rintro e w8 ⟨rfl, hx8⟩
      have HX8 := Lib.hid (HX7.out.1.trans hx8)
      clear hx8 HT
      go_wp2_with fail
      go_ret
      exact ⟨rfl, HX8.out⟩
theorem makes_card (v0 v1 : Value) (W : World) (w0 : ∃ l, StrArg W v0 l) (w1 : ∃ ls, TreesArg W v1 ls) :
    Calls Tryd.prog 3 #[v0, v1] W fun e W' => e = .returned (.bool true) ∧ Ext [] W W' := by
  obtain ⟨l, h⟩ := w0
  obtain ⟨ls, h'⟩ := w1
  exact makes_law v0 v1 l ls W h h'
end Go.Proofs.YtkjcjklnclahdaaDoor.Tr
