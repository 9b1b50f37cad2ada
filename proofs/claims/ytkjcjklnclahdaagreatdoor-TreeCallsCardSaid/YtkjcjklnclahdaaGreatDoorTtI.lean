/-
  tree: symMergeCmpFunc of entries walked.
-/
import Derived.Test.YtkjcjklnclahdaaGreatDoorTtH
namespace Go.Proofs.YtkjcjklnclahdaaGreatDoor.Tr
open Go.RowKit

set_option maxRecDepth 100000 in
set_option maxHeartbeats 4000000 in
theorem symA_walk (w0 w : World) (L : List Ob) (jj : Nat) (v : Value) (P Y Q : List Et) (x : Et) (S : Sep w0 w L) (hj : L[jj]? = some (oEt v (P ++ (x :: (Y ++ Q))))) (hl : (P ++ (x :: (Y ++ Q))).length ≤ 1000) (a m b : Nat) (ha : P.length = a) (hm : a + 1 = m) (hb : m + Y.length = b) (hY : upE Y) (hd : ndE (x :: Y)) :
    Calls Tryz.prog 89 #[v, .int .i64 a, .int .i64 m, .int .i64 b, .func (.func 66) #[] #[]] w fun e w' => e = .returned (.tuple #[]) ∧ Sep w0 w' (L.set jj (oEt v (P ++ (sortN (x :: Y) ++ Q)))) := by
  obtain ⟨n, hn⟩ : ∃ n, (P ++ (x :: (Y ++ Q))).length = n := ⟨_, rfl⟩
  have hown : w.ownsRow 0 62 2 v (P ++ (x :: (Y ++ Q))).length (etC (P ++ (x :: (Y ++ Q)))) := S.get jj hj
  rw [hn] at hown
  obtain ⟨g, cap, hv⟩ := row_form hown (by rw [← hn]; simp; omega)
  subst hv
  have hjl : jj < L.length := (List.getElem?_eq_some_iff.1 hj).1
  have hbn : b ≤ n := by rw [← hn]; simp only [List.length_append, List.length_cons]; omega
  have hL9 : L.set jj (oEt (.slice (some ⟨g, 0, none⟩) n cap) (P ++ (x :: (Y ++ Q)))) = L := set_self hj
  rw [hn] at hl
  obtain ⟨x1, x2, -, -⟩ := et_cells hown a ha
  obtain ⟨yl, hyl⟩ : ∃ yl, Y.length = yl := ⟨_, rfl⟩
  have hY9 : ∀ (h : Nat) (z : Et), m ≤ h → Y[h - m]? = some z → w.cell? ⟨g, h * 2, none⟩ = some (.string z.1) ∧ w.cell? ⟨g, h * 2 + 1, none⟩ = some (.slice z.2.1 z.2.2.1 z.2.2.2) := fun h z hh hz => by
    have hlt := (List.getElem?_eq_some_iff.1 hz).1
    have e : P ++ (x :: (Y ++ Q)) = P ++ ([x] ++ (Y ++ Q)) := rfl
    have := at_end (P := P) (X := [x]) (Y := Y) (Q := Q) (k := h) (by rw [List.length_singleton]; omega) (by rw [List.length_singleton]; omega)
    rw [List.length_singleton, show h - (P.length + 1) = h - m by omega, hz] at this
    obtain ⟨c1, c2, -, -⟩ := et_at hown (e ▸ this)
    exact ⟨c1, c2⟩
  have HH := Lib.hid (⟨S, hn, ha, hyl, hL9, hown, hY9, hY, hd⟩ : _ ∧ _ ∧ _ ∧ _ ∧ _ ∧ _ ∧ _ ∧ _ ∧ _)
  obtain ⟨R, hR⟩ : ∃ R, sortN (x :: Y) = R := ⟨_, rfl⟩
  have HR := Lib.hid hR
  rw [hR]
  rw [hyl] at hb
  have hma : (m : Int) - (a : Int) = 1 := by omega
  have han : (a : Int) < (n : Int) := by omega
  clear S hj hown hn hL9 hyl hY9 hY hd hR
  go_enter Tryz.func89, Tryz.ntmps89
  go_wp2_with fail
  clear hma
  go_loopg [10, 11, 12] yl (fun gg iv jv hv wr => ∃ i j : Nat, gg = j - i ∧ iv = .int .i64 i ∧ jv = .int .i64 j ∧ m ≤ i ∧ i ≤ j ∧ j ≤ b ∧ (i = m ∨ ∃ z, Y[i - 1 - m]? = some z ∧ ltB z.1 x.1) ∧ (j = b ∨ ∃ z, Y[j - m]? = some z ∧ ¬ ltB z.1 x.1) ∧ Ext [] w wr)
  case atStart => exact ⟨m, b, by omega, rfl, rfl, by omega, by omega, by omega, .inl rfl, .inl rfl, Ext.refl _ _⟩
  case round =>
    obtain ⟨i, j, rfl, rfl, rfl, hmi, hij, hjb, hA, hB, hx⟩ := hrel
    by_cases hlt : i < j
    · obtain ⟨c, hc⟩ : ∃ c, (i + j) / 2 = c := ⟨_, rfl⟩
      have hc1 : i ≤ c := by omega
      have hc2 : c < j := by omega
      have hltz : (i : Int) < (j : Int) := by omega
      have hcn : (c : Int) < (n : Int) := by omega
      obtain ⟨z, hz⟩ : ∃ z, Y[c - m]? = some z := ⟨_, List.getElem?_eq_getElem (by rw [HH.out.2.2.2.1]; omega)⟩
      obtain ⟨z1, z2⟩ := HH.out.2.2.2.2.2.2.1 c z (by omega) hz
      have c1 : ∀ V : Ex wr, V.w.cell? ⟨g, a * 2, none⟩ = some (.string x.1) := fun V => V.cell (hx.cell x1)
      have c2 : ∀ V : Ex wr, V.w.cell? ⟨g, a * 2 + 1, none⟩ = some (.slice x.2.1 x.2.2.1 x.2.2.2) := fun V => V.cell (hx.cell x2)
      have c3 : ∀ V : Ex wr, V.w.cell? ⟨g, c * 2, none⟩ = some (.string z.1) := fun V => V.cell (hx.cell z1)
      have c4 : ∀ V : Ex wr, V.w.cell? ⟨g, c * 2 + 1, none⟩ = some (.slice z.2.1 z.2.2.1 z.2.2.2) := fun V => V.cell (hx.cell z2)
      have HX := Lib.hid (⟨hA, hB, hx, hz, x1, x2⟩ : _ ∧ _ ∧ _ ∧ _ ∧ _ ∧ _)
      have hcz : ((i : Int) + (j : Int)) / 2 = (c : Int) := by omega
      clear hA hB hx hz z1 z2 hc x1 x2
      go_upto_region 5 with (fail)
      clear hcz
      refine wp_region_ext (by kernel_rfl) (by kernel_rfl) ?_
      repeat (go_big_quiet_step (first | (go_at_call 66; refine Calls.ext_of (cmp_walk _ _ _ _ _))))
      refine wpQuiet_nil ?_
      rintro _ ⟨V, rfl⟩
      obtain ⟨q, hq⟩ : ∃ q, cmpN z.1 x.1 = q := ⟨_, rfl⟩
      have hlt9 := cmpN_lt z.1 x.1
      rw [hq] at hlt9 ⊢
      have HV := Lib.hid (⟨HX.out.2.2.1.trans V.ext, hlt9⟩ : _ ∧ _)
      have x1 := HX.out.2.2.2.2.1
      have x2 := HX.out.2.2.2.2.2
      clear c1 c2 c3 c4 hq hlt9
      generalize V.w = U at *
      by_cases hq0 : q < 0
      · go_wp2_with fail
        go_roundg (j - (c + 1))
        case measure => omega
        case rel => exact ⟨c + 1, j, rfl, by go_num, rfl, by omega, by omega, hjb, .inr ⟨z, by rw [Nat.add_sub_cancel]; exact HX.out.2.2.2.1, HV.out.2.1 hq0⟩, HX.out.2.1, HV.out.1⟩
      · go_wp2_with fail
        go_roundg (c - i)
        case measure => omega
        case rel => exact ⟨i, c, rfl, rfl, rfl, hmi, by omega, by omega, HX.out.1, .inr ⟨z, HX.out.2.2.2.1, fun h => (by have := HV.out.2.2 h; omega)⟩, HV.out.1⟩
    · obtain rfl : i = j := by omega
      have hltz : ¬ (i : Int) < (i : Int) := by omega
      obtain ⟨c, hc⟩ : ∃ c, i - m = c := ⟨_, rfl⟩
      have hcl : c ≤ yl := by omega
      have hnd : ∀ z ∈ Y, z.1 ≠ x.1 := fun z hz e => by
        have h9 := HH.out.2.2.2.2.2.2.2.2
        rw [ndE, List.map_cons, List.nodup_cons] at h9
        exact h9.1 (by rw [← e]; exact List.mem_map_of_mem hz)
      have hup : upE (Y.take c ++ x :: Y.drop c) := by
        refine put_mid HH.out.2.2.2.2.2.2.2.1 (take_less HH.out.2.2.2.2.2.2.2.1 ?_) (drop_less HH.out.2.2.2.2.2.2.2.1 ?_)
        · rcases hA with h | ⟨z, h1, h2⟩
          · exact .inl (by omega)
          · exact .inr ⟨z, by rw [← hc, show i - m - 1 = i - 1 - m by omega]; exact h1, h2⟩
        · rcases hB with h | ⟨z, h1, h2⟩
          · exact .inl (by rw [HH.out.2.2.2.1]; omega)
          · exact .inr ⟨z, by rw [← hc]; exact h1, less_of h2 (fun e => hnd z (List.mem_of_getElem? h1) e.symm)⟩
      have hsrt : sortN (x :: Y) = Y.take c ++ x :: Y.drop c := sym_eq HH.out.2.2.2.2.2.2.2.2 hup (by
        refine List.perm_middle.trans ?_
        rw [List.take_append_drop])
      rw [HR.out] at hsrt
      clear HR
      subst hsrt
      have HX := Lib.hid hx
      have hiz : (i : Int) - 1 = (a : Int) + (c : Int) := by omega
      clear hA hB hx hup hnd
      go_wp2_with fail
      clear hltz
      go_loopg [13] c (fun gg kv wr => ∃ (k : Nat) (Z1 Z2 : List Et), gg + k = c ∧ kv = .int .i64 ((a : Int) + (k : Int)) ∧ Y.take c = Z1 ++ Z2 ∧ Z1.length = k ∧ Sep w0 wr (L.set jj (oEt (.slice (some ⟨g, 0, none⟩) n cap) (P ++ ((Z1 ++ x :: Z2) ++ (Y.drop c ++ Q))))))
      case atStart =>
        refine ⟨0, [], Y.take c, by omega, by simp, rfl, rfl, ?_⟩
        have e : P ++ (([] ++ x :: Y.take c) ++ (Y.drop c ++ Q)) = P ++ (x :: (Y ++ Q)) := by
          rw [List.nil_append, List.cons_append, ← List.append_assoc (Y.take c), List.take_append_drop]
        rw [e, HH.out.2.2.2.2.1]
        exact HH.out.1.quiet HX.out
      case round =>
        obtain ⟨k, Z1, Z2, hgk, rfl, hZ, hZ1, S⟩ := hrel
        have hZl : Z1.length + Z2.length = c := by rw [← List.length_append, ← hZ, List.length_take, HH.out.2.2.2.1]; omega
        by_cases hkc : k < c
        · obtain ⟨gg, rfl⟩ : ∃ gg, gk = gg + 1 := ⟨gk - 1, by omega⟩
          obtain _ | ⟨z, Z2⟩ := Z2
          · rw [List.length_nil] at hZl; omega
          have hkz : (a : Int) + (k : Int) < (i : Int) - 1 := by omega
          have hlen : (P ++ ((Z1 ++ x :: z :: Z2) ++ (Y.drop c ++ Q))).length = n := by
            have h1 := HH.out.2.1
            simp only [List.length_append, List.length_cons, List.length_drop, HH.out.2.2.2.1] at h1 hZl ⊢
            omega
          have hown : wr.ownsRow 0 62 2 (.slice (some ⟨g, 0, none⟩) n cap) n (etC ((P ++ Z1) ++ x :: (z :: Z2 ++ (Y.drop c ++ Q)))) := by
            have h1 : wr.ownsRow 0 62 2 (.slice (some ⟨g, 0, none⟩) n cap) (P ++ ((Z1 ++ x :: z :: Z2) ++ (Y.drop c ++ Q))).length (etC (P ++ ((Z1 ++ x :: z :: Z2) ++ (Y.drop c ++ Q)))) := S.get jj (List.getElem?_set_self hjl)
            rw [hlen] at h1
            rw [show (P ++ Z1) ++ x :: (z :: Z2 ++ (Y.drop c ++ Q)) = P ++ ((Z1 ++ x :: z :: Z2) ++ (Y.drop c ++ Q)) by simp]
            exact h1
          have l1 : (P ++ Z1).length = a + k := by rw [List.length_append, HH.out.2.2.1, hZ1]
          have e2 : (P ++ Z1) ++ x :: (z :: Z2 ++ (Y.drop c ++ Q)) = (P ++ Z1 ++ [x]) ++ z :: (Z2 ++ (Y.drop c ++ Q)) := by simp
          have l2 : (P ++ Z1 ++ [x]).length = a + k + 1 := by rw [List.length_append, l1]; rfl
          obtain ⟨p1, p2, p3, p4⟩ := et_cells hown (a + k) l1
          obtain ⟨q1, q2, q3, q4⟩ := et_cells (e2 ▸ hown) (a + k + 1) l2
          have h1 := et_put (y := z) hown (a + k) l1
          have e3 : (P ++ Z1) ++ z :: (z :: Z2 ++ (Y.drop c ++ Q)) = (P ++ Z1 ++ [z]) ++ z :: (Z2 ++ (Y.drop c ++ Q)) := by simp
          have l3 : (P ++ Z1 ++ [z]).length = a + k + 1 := by rw [List.length_append, l1]; rfl
          have h2 := et_put (y := x) (e3 ▸ h1) (a + k + 1) l3
          have e4 : (P ++ Z1 ++ [z]) ++ x :: (Z2 ++ (Y.drop c ++ Q)) = P ++ (((Z1 ++ [z]) ++ x :: Z2) ++ (Y.drop c ++ Q)) := by simp
          have hlen2 : (P ++ (((Z1 ++ [z]) ++ x :: Z2) ++ (Y.drop c ++ Q))).length = n := by
            rw [← hlen]
            simp only [List.length_append, List.length_cons, List.length_nil]
            omega
          have S2 := S.upd jj (oEt (.slice (some ⟨g, 0, none⟩) n cap) (P ++ (((Z1 ++ [z]) ++ x :: Z2) ++ (Y.drop c ++ Q)))) (List.getElem?_set_self hjl) (((((Ext.refl _ wr).setCell ⟨g, (a + k) * 2, none⟩ (.string z.1) (.inl (by simp [oEt, oSl, Value.ownBlock]))).setCell ⟨g, (a + k) * 2 + 1, none⟩ (.slice z.2.1 z.2.2.1 z.2.2.2) (.inl (by simp [oEt, oSl, Value.ownBlock]))).setCell ⟨g, (a + k + 1) * 2, none⟩ (.string x.1) (.inl (by simp [oEt, oSl, Value.ownBlock]))).setCell ⟨g, (a + k + 1) * 2 + 1, none⟩ (.slice x.2.1 x.2.2.1 x.2.2.2) (.inl (by simp [oEt, oSl, Value.ownBlock]))) (Fr.refl _ _) (by
            show World.ownsRow _ 0 62 2 _ (P ++ (((Z1 ++ [z]) ++ x :: Z2) ++ (Y.drop c ++ Q))).length _
            rw [hlen2, ← e4]
            exact h2)
          rw [List.set_set] at S2
          have HS := Lib.hid (⟨S2, hZ, hZ1⟩ : _ ∧ _ ∧ _)
          have hak : (a : Int) + (k : Int) < (n : Int) := by omega
          have hak2 : (a : Int) + (k : Int) + 1 < (n : Int) := by omega
          clear S S2 hZ hZ1 hown e2 e3 e4 l1 l2 l3 h1 h2 hlen hlen2 hZl
          go_upto_region 11 with (fail)
          go_region
          go_wp2_with fail
          go_roundg gg
          case measure => omega
          case rel =>
            exact ⟨k + 1, Z1 ++ [z], Z2, by omega, by go_num, by rw [HS.out.2.1]; simp, by rw [List.length_append, HS.out.2.2]; rfl, HS.out.1.quiet ((Ext.refl _ _).drew)⟩
        · obtain rfl : gk = 0 := by omega
          have hkz : ¬ (a : Int) + (k : Int) < (i : Int) - 1 := by omega
          obtain rfl : Z2 = [] := List.length_eq_zero_iff.1 (by omega)
          rw [List.append_nil] at hZ
          subst hZ
          have e : P ++ ((Y.take c ++ [x]) ++ (Y.drop c ++ Q)) = P ++ (Y.take c ++ x :: (Y.drop c ++ Q)) := by simp
          rw [e] at S
          have HS := Lib.hid S
          clear S hZ1 hZl e
          go_wp2_with fail
          (try simp only [Exit.inBlock, Exit.then])
          refine bodyPost_ret (results_none rfl _ _ _) rfl ?_
          exact ⟨rfl, HS.out⟩
end Go.Proofs.YtkjcjklnclahdaaGreatDoor.Tr
