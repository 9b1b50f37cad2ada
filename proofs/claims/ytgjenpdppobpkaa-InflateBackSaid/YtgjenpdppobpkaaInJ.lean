/-
  inflate: slices.Concat of four rows; Fixed, table, full, few, fixed walked.
-/
import Derived.Test.YtgjenpdppobpkaaInI
namespace Go.Proofs.Ytgjenpdppobpkaa.If
open Go.RowKit Bt Hu

theorem take_snoc10 {α : Type} (l : List α) (i : Nat) (x : α) (h : l[i]? = some x) : l.take (i + 1) = l.take i ++ [x] := by
  rw [List.take_add_one, h]
  rfl
theorem app_ints (w : World) (v : Value) (xs ys : List Int) (ao : Option Addr) (cap : Nat) (h : w.ownsRow 0 3 1 v xs.length (xs.map iz)) (hy : IntsAt w (.slice ao ys.length cap) ys) (hne : 0 < ys.length) (hl : xs.length + ys.length ≤ 1048576) :
    ∃ ao2 cap2 w2, (∀ ty, (Builtin.append_ #[42, 42] ty #[v, .slice ao ys.length cap]).run Try.prog w = .ok (.slice ao2 (xs ++ ys).length cap2) w2) ∧ w2.ownsRow 0 3 1 (.slice ao2 (xs ++ ys).length cap2) (xs ++ ys).length ((xs ++ ys).map iz) ∧ Ext v.ownBlock.toList w w2 ∧ Fr w v.ownBlock.toList (Value.slice ao2 (xs ++ ys).length cap2).ownBlock.toList := by
  obtain ⟨i0, hif, hz0, hz1, hz2⟩ := info_parts infoInt7
  obtain ⟨_, _, e, hc⟩ := hy
  injection e with e1 _ e3
  subst e1 e3
  obtain ⟨b, off, rfl, hcell⟩ := hc hne
  obtain ⟨v1, w1, hr, hown, hgr, _, hat⟩ := run_append_own_at (P := Try.prog) w 0 42 0 3 i0 _ 1 8 Try.underlying42 hif hz0 hz1 hz2 rfl (by decide) v xs.length _ h ⟨b, off, none⟩ ys.length cap (ys.map iz) (by simp)
    (fun j u hu => by
      rw [List.getElem?_map] at hu
      obtain ⟨x, hx, rfl⟩ := Option.map_eq_some_iff.1 hu
      rw [Addr.add_mid]
      exact hcell j x hx) (fun u hu => by
      obtain ⟨x, _, rfl⟩ := List.mem_map.1 hu
      rfl) (by unfold maxLen; omega) (by omega) (Nat.zero_le _)
  rw [← List.map_append, ← List.length_append] at hown
  obtain ⟨ao2, cap2, rfl⟩ := own_slice hown
  refine ⟨ao2, cap2, w1, fun _ => hr, hown, (Ext.refl _ _).grown hgr (fun k hk => .inl (by simpa using hk)), fun k hk => ?_⟩
  have hk : (Value.slice ao2 (xs ++ ys).length cap2).ownBlock = some k := by simpa using hk
  rcases hat with e | e
  · exact .inl (by rw [← e, hk]; simp)
  · rw [e] at hk
    have := Option.some.inj hk
    exact .inr (by omega)
abbrev Zr := Option Addr × Nat × List Int
def RowsAt (w : World) (b : Nat) (Z : List Zr) : Prop := ∀ (i : Nat) (z : Zr), Z[i]? = some z → w.cell? ⟨b, i, none⟩ = some (.slice z.1 z.2.2.length z.2.1) ∧ IntsAt w (.slice z.1 z.2.2.length z.2.1) z.2.2 ∧ 0 < z.2.2.length
def flatZ (Z : List Zr) : List Int := Z.flatMap fun z => z.2.2
theorem flatZ_snoc (Z : List Zr) (z : Zr) : flatZ (Z ++ [z]) = flatZ Z ++ z.2.2 := by simp [flatZ]
set_option maxRecDepth 100000 in
set_option maxHeartbeats 8000000 in
theorem concat_walk (b cap : Nat) (Z : List Zr) (w : World) (h : RowsAt w b Z) (h4 : Z.length ≤ 100) (hl : (flatZ Z).length ≤ 100000) :
    Calls Try.prog 35 #[.slice (some ⟨b, 0, none⟩) Z.length cap] w (NewInts w (flatZ Z)) := by
  have H := Lib.hid h
  have hpre : ∀ k, (flatZ (Z.take k)).length ≤ (flatZ Z).length := fun k => by
    have e : flatZ Z = flatZ (Z.take k) ++ flatZ (Z.drop k) := by unfold flatZ; rw [← List.flatMap_append, List.take_append_drop]
    rw [e, List.length_append]; omega
  have HP := Lib.hid hpre
  clear h hpre
  go_enter Try.func35, Try.ntmps35
  go_wp2_with fail
  go_loopg [3, 11] Z.length (fun g sv iv wr => ∃ k : Nat, g + k = Z.length ∧ iv = .int .i64 k ∧ sv = .int .i64 ((flatZ (Z.take k)).length : Nat) ∧ w = wr)
  case atStart => exact ⟨0, by omega, rfl, rfl, rfl⟩
  case round =>
    obtain ⟨k, hk, rfl, rfl, rfl⟩ := hrel
    by_cases hlt : k < Z.length
    · obtain ⟨z, hz⟩ : ∃ z, Z[k]? = some z := ⟨_, List.getElem?_eq_getElem hlt⟩
      obtain ⟨c0, c1, c2⟩ := H.out k z hz
      have hs : (flatZ (Z.take (k + 1))).length = (flatZ (Z.take k)).length + z.2.2.length := by
        rw [take_snoc10 Z k z hz, flatZ_snoc, List.length_append]
      have hp := HP.out (k + 1)
      rw [hs] at hp
      have HS := Lib.hid hs
      clear hz c1 hs
      generalize (flatZ (Z.take k)).length = n at *
      generalize z.2.2.length = m at *
      have k1 : (k : Int) < (Z.length : Int) := by omega
      go_wp2_with fail
      go_roundg (Z.length - (k + 1))
      case measure => omega
      case rel => exact ⟨k + 1, by omega, by go_num, by rw [HS.out]; go_num, rfl⟩
    · obtain rfl : k = Z.length := by omega
      rw [List.take_length]
      obtain ⟨n, hn⟩ : ∃ n, (flatZ Z).length = n := ⟨_, rfl⟩
      rw [hn] at hl ⊢
      have HN := Lib.hid hn
      clear hn
      go_wp2_with fail
      refine (GrowI_walk n w (by omega)).mono ?_
      rintro e w1 ⟨ao, cap1, rfl, hx, hp, hf⟩
      have HS := Lib.hid ((Sep.start w).new hx (oSl 3 1 (.slice ao 0 cap1) (flatZ (Z.take 0)).length ((flatZ (Z.take 0)).map iz)) (by exact hp) hf)
      clear hx hp hf
      go_wp2_with fail
      go_loopg [6, 27] Z.length (fun g sv iv wr => ∃ (k : Nat) (ao : Option Addr) (cap1 : Nat), g + k = Z.length ∧ iv = .int .i64 k ∧ sv = .slice ao (flatZ (Z.take k)).length cap1 ∧ Sep w wr [oSl 3 1 (.slice ao (flatZ (Z.take k)).length cap1) (flatZ (Z.take k)).length ((flatZ (Z.take k)).map iz)])
      case atStart => exact ⟨0, ao, cap1, by omega, rfl, rfl, HS.out⟩
      case round =>
        clear HS
        obtain ⟨k, ao, cap1, hk, rfl, rfl, S⟩ := hrel
        by_cases hlt : k < Z.length
        · obtain ⟨z, hz⟩ : ∃ z, Z[k]? = some z := ⟨_, List.getElem?_eq_getElem hlt⟩
          obtain ⟨c0, c1, c2⟩ := H.out k z hz
          have d0 := Ext.cell S.ext c0
          have hs : flatZ (Z.take (k + 1)) = flatZ (Z.take k) ++ z.2.2 := by rw [take_snoc10 Z k z hz, flatZ_snoc]
          have hp := HP.out (k + 1)
          rw [hs, List.length_append] at hp
          have hrow : wr.ownsRow 0 3 1 (.slice ao (flatZ (Z.take k)).length cap1) (flatZ (Z.take k)).length ((flatZ (Z.take k)).map iz) := S.get 0 rfl
          obtain ⟨ao2, cap2, w2, hr, ho, hx, hf⟩ := app_ints wr _ (flatZ (Z.take k)) z.2.2 z.1 z.2.1 hrow (c1.ext S.ext) c2 (by have := HN.out; omega)
          rw [← hs] at ho hf hr
          have S2 := S.upd 0 (oSl 3 1 (.slice ao2 (flatZ (Z.take (k + 1))).length cap2) (flatZ (Z.take (k + 1))).length ((flatZ (Z.take (k + 1))).map iz)) rfl hx hf ho
          have HR := Lib.hid hr
          have HS := Lib.hid S2
          clear hz c0 c1 hs hp hrow hr ho hx hf S S2
          have k1 : (k : Int) < (Z.length : Int) := by omega
          obtain ⟨Y1, hY1⟩ : ∃ Y1, flatZ (Z.take (k + 1)) = Y1 := ⟨_, rfl⟩
          rw [hY1] at HR HS
          have HY := Lib.hid hY1
          clear hY1
          generalize (flatZ (Z.take k)).length = n0 at *
          generalize z.2.2.length = m at *
          go_wp2_with (at_builtin; refine wpList_plain rfl (fun K9 hK9 => wp_append_run _ _ _ _ rfl rfl rfl (HR.out _) (hK9 _ _ ?_)))
          go_roundg (Z.length - (k + 1))
          case measure => omega
          case rel => exact ⟨k + 1, ao2, cap2, by omega, by go_num, by rw [HY.out], by rw [HY.out]; exact HS.out⟩
        · obtain rfl : k = Z.length := by omega
          rw [List.take_length] at S ⊢
          have HS := Lib.hid S
          clear S
          go_wp2_with fail
          go_ret
          exact ⟨_, rfl, HS.out.ext, HS.out.get 0 rfl, HS.out.base _ (List.mem_cons_self ..)⟩
def NewPair (w : World) (l m : List Int) (e : Ending) (w' : World) : Prop := ∃ a1 k1 a2 k2, e = .returned (.tuple #[.slice a1 l.length k1, .slice a2 m.length k2]) ∧ Ext [] w w' ∧
  w'.ownsRow 0 3 1 (.slice a1 l.length k1) l.length (l.map iz) ∧ w'.ownsRow 0 3 1 (.slice a2 m.length k2) m.length (m.map iz) ∧ (∀ k ∈ (Value.slice a1 l.length k1).ownBlock.toList, w.heap.size ≤ k) ∧ (∀ k ∈ (Value.slice a2 m.length k2).ownBlock.toList, w.heap.size ≤ k)
theorem fix_flat (z1 z2 z3 z4 : Zr) (h1 : z1.2.2 = List.replicate 144 8) (h2 : z2.2.2 = List.replicate 112 9) (h3 : z3.2.2 = List.replicate 24 7) (h4 : z4.2.2 = List.replicate 8 8) : flatZ [z1, z2, z3, z4] = fixL := by
  simp only [flatZ, List.flatMap_cons, List.flatMap_nil, List.append_nil, h1, h2, h3, h4, fixL]
set_option maxRecDepth 100000 in
set_option maxHeartbeats 8000000 in
theorem fixed_walk (w : World) : Calls Try.prog 17 #[] w (NewPair w fixL fixD) := by
  have hL : fixL.length = 288 := by decide +kernel
  have hDl : fixD.length = 30 := by decide +kernel
  obtain ⟨X, hX⟩ : ∃ X, fixL = X := ⟨_, rfl⟩
  obtain ⟨Y, hY⟩ : ∃ Y, fixD = Y := ⟨_, rfl⟩
  rw [hX] at hL ⊢
  rw [hY] at hDl ⊢
  have HX := Lib.hid (⟨hX, hL, hY, hDl⟩ : _ ∧ _ ∧ _ ∧ _)
  clear hX hL hY hDl
  go_enter Try.func17, Try.ntmps17
  go_wp2_with fail
  refine (repeat1_walk 8 144 ⟨w.heap.size, 0, none⟩ 1 _ (by omega) (by omega) (cellOf (heap_alloc_at _) 0)).mono ?_
  rintro e w1 ⟨v1, rfl, hx, hp, hf⟩
  obtain ⟨a1, k1, rfl⟩ := own_slice hp
  have S := (Sep.start w).new (((Ext.refl [] w).alloc _).trans hx) (oSl 3 1 (.slice a1 (List.replicate 144 (8 : Int)).length k1) (List.replicate 144 (8 : Int)).length ((List.replicate 144 (8 : Int)).map iz)) hp (fun k hk => Nat.le_trans (by simp) (hf k hk))
  have HS := Lib.hid S
  clear S hx hp hf
  go_wp2_with fail
  refine (repeat1_walk 9 112 ⟨w1.heap.size, 0, none⟩ 1 _ (by omega) (by omega) (cellOf (heap_alloc_at _) 0)).mono ?_
  rintro e w2 ⟨v1, rfl, hx, hp, hf⟩
  obtain ⟨a2, k2, rfl⟩ := own_slice hp
  have S := HS.out.new (((Ext.refl [] w1).alloc _).trans hx) (oSl 3 1 (.slice a2 (List.replicate 112 (9 : Int)).length k2) (List.replicate 112 (9 : Int)).length ((List.replicate 112 (9 : Int)).map iz)) hp (fun k hk => Nat.le_trans (by simp) (hf k hk))
  clear HS
  have HS := Lib.hid S
  clear S hx hp hf
  go_wp2_with fail
  refine (repeat1_walk 7 24 ⟨w2.heap.size, 0, none⟩ 1 _ (by omega) (by omega) (cellOf (heap_alloc_at _) 0)).mono ?_
  rintro e w3 ⟨v1, rfl, hx, hp, hf⟩
  obtain ⟨a3, k3, rfl⟩ := own_slice hp
  have S := HS.out.new (((Ext.refl [] w2).alloc _).trans hx) (oSl 3 1 (.slice a3 (List.replicate 24 (7 : Int)).length k3) (List.replicate 24 (7 : Int)).length ((List.replicate 24 (7 : Int)).map iz)) hp (fun k hk => Nat.le_trans (by simp) (hf k hk))
  clear HS
  have HS := Lib.hid S
  clear S hx hp hf
  go_wp2_with fail
  refine (repeat1_walk 8 8 ⟨w3.heap.size, 0, none⟩ 1 _ (by omega) (by omega) (cellOf (heap_alloc_at _) 0)).mono ?_
  rintro e w4 ⟨v1, rfl, hx, hp, hf⟩
  obtain ⟨a4, k4, rfl⟩ := own_slice hp
  have S := HS.out.new (((Ext.refl [] w3).alloc _).trans hx) (oSl 3 1 (.slice a4 (List.replicate 8 (8 : Int)).length k4) (List.replicate 8 (8 : Int)).length ((List.replicate 8 (8 : Int)).map iz)) hp (fun k hk => Nat.le_trans (by simp) (hf k hk))
  clear HS
  have HS := Lib.hid S
  clear S hx hp hf
  have hrow : RowsAt (w4.alloc (.cells #[.slice a1 144 k1, .slice a2 112 k2, .slice a3 24 k3, .slice a4 8 k4] 42)) w4.heap.size [(a1, k1, List.replicate 144 8), (a2, k2, List.replicate 112 9), (a3, k3, List.replicate 24 7), (a4, k4, List.replicate 8 8)] := by
    have hx : Ext [] w4 (w4.alloc (.cells #[.slice a1 144 k1, .slice a2 112 k2, .slice a3 24 k3, .slice a4 8 k4] 42)) := (Ext.refl [] w4).alloc _
    have g1 := IntsAt.of_own (HS.out.get 3 rfl)
    have g2 := IntsAt.of_own (HS.out.get 2 rfl)
    have g3 := IntsAt.of_own (HS.out.get 1 rfl)
    have g4 := IntsAt.of_own (HS.out.get 0 rfl)
    intro i z hz
    match i, hz with
    | 0, hz => obtain rfl := Option.some.inj hz; exact ⟨cellOf (heap_alloc_at _) 0, g1.ext hx, by simp⟩
    | 1, hz => obtain rfl := Option.some.inj hz; exact ⟨cellOf (heap_alloc_at _) 1, g2.ext hx, by simp⟩
    | 2, hz => obtain rfl := Option.some.inj hz; exact ⟨cellOf (heap_alloc_at _) 2, g3.ext hx, by simp⟩
    | 3, hz => obtain rfl := Option.some.inj hz; exact ⟨cellOf (heap_alloc_at _) 3, g4.ext hx, by simp⟩
    | n + 4, hz => cases hz
  have hfl : flatZ [(a1, k1, List.replicate 144 8), (a2, k2, List.replicate 112 9), (a3, k3, List.replicate 24 7), (a4, k4, List.replicate 8 8)] = X := (fix_flat _ _ _ _ rfl rfl rfl rfl).trans HX.out.1
  have hcc := concat_walk w4.heap.size 4 _ _ hrow (Nat.le_of_ble_eq_true rfl) (by rw [hfl]; have := HX.out.2.1; omega)
  rw [hfl] at hcc
  clear hrow hfl
  have HC := Lib.hid hcc
  clear hcc
  go_wp2_with fail
  refine HC.out.mono ?_
  rintro e w5 ⟨v5, rfl, hx, hp, hf⟩
  obtain ⟨a5, k5, rfl⟩ := own_slice hp
  have S := HS.out.new (((Ext.refl [] w4).alloc _).trans hx) (oSl 3 1 (.slice a5 X.length k5) X.length (X.map iz)) hp (fun k hk => Nat.le_trans (by simp) (hf k hk))
  clear HS HC
  have HS := Lib.hid S
  clear S hx hp hf
  go_wp2_with fail
  refine (repeat1_walk 5 30 ⟨w5.heap.size, 0, none⟩ 1 _ (by omega) (by omega) (cellOf (heap_alloc_at _) 0)).mono ?_
  rintro e w6 ⟨v6, rfl, hx, hp, hf⟩
  have hfd : List.replicate 30 (5 : Int) = Y := HX.out.2.2.1
  rw [hfd] at hp
  obtain ⟨a6, k6, rfl⟩ := own_slice hp
  have S := HS.out.new (((Ext.refl [] w5).alloc _).trans hx) (oSl 3 1 (.slice a6 Y.length k6) Y.length (Y.map iz)) hp (fun k hk => Nat.le_trans (by simp) (hf k hk))
  clear HS
  have HS := Lib.hid S
  clear S hx hp hf hfd
  go_wp2_with fail
  go_ret2
  exact ⟨a5, k5, a6, k6, rfl, HS.out.ext, HS.out.get 1 rfl, HS.out.get 0 rfl, HS.out.base _ (List.mem_cons_of_mem _ (List.mem_cons_self ..)), HS.out.base _ (List.mem_cons_self ..)⟩
end Go.Proofs.Ytgjenpdppobpkaa.If
