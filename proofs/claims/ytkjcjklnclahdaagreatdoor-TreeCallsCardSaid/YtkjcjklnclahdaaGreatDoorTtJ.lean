/-
  tree: symMergeCmpFunc of entries walked: the second part is one entry.
-/
import Derived.Test.YtkjcjklnclahdaaGreatDoorTtI
namespace Go.Proofs.YtkjcjklnclahdaaGreatDoor.Tr
open Go.RowKit

set_option maxRecDepth 100000 in
set_option maxHeartbeats 4000000 in
theorem symB_walk (w0 w : World) (L : List Ob) (jj : Nat) (v : Value) (P X Q : List Et) (y : Et) (S : Sep w0 w L) (hj : L[jj]? = some (oEt v (P ++ (X ++ (y :: Q))))) (hl : (P ++ (X ++ (y :: Q))).length ≤ 1000) (a m b : Nat) (ha : P.length = a) (hm : a + X.length = m) (hb : m + 1 = b) (hX1 : X.length ≠ 1) (hX : upE X) (hd : ndE (X ++ [y])) :
    Calls Tryz.prog 89 #[v, .int .i64 a, .int .i64 m, .int .i64 b, .func (.func 66) #[] #[]] w fun e w' => e = .returned (.tuple #[]) ∧ Sep w0 w' (L.set jj (oEt v (P ++ (sortN (X ++ [y]) ++ Q)))) := by
  obtain ⟨n, hn⟩ : ∃ n, (P ++ (X ++ (y :: Q))).length = n := ⟨_, rfl⟩
  have hown : w.ownsRow 0 62 2 v (P ++ (X ++ (y :: Q))).length (etC (P ++ (X ++ (y :: Q)))) := S.get jj hj
  rw [hn] at hown
  obtain ⟨g, cap, hv⟩ := row_form hown (by rw [← hn]; simp; omega)
  subst hv
  have hjl : jj < L.length := (List.getElem?_eq_some_iff.1 hj).1
  have hbn : b ≤ n := by rw [← hn]; simp only [List.length_append, List.length_cons]; omega
  have hL9 : L.set jj (oEt (.slice (some ⟨g, 0, none⟩) n cap) (P ++ (X ++ (y :: Q)))) = L := set_self hj
  rw [hn] at hl
  have e0 : P ++ (X ++ (y :: Q)) = (P ++ X) ++ y :: Q := by simp
  obtain ⟨x1, x2, -, -⟩ := et_cells (e0 ▸ hown) m (by rw [List.length_append, ha, hm])
  obtain ⟨xl, hxl⟩ : ∃ xl, X.length = xl := ⟨_, rfl⟩
  have hX9 : ∀ (h : Nat) (z : Et), a ≤ h → X[h - a]? = some z → w.cell? ⟨g, h * 2, none⟩ = some (.string z.1) ∧ w.cell? ⟨g, h * 2 + 1, none⟩ = some (.slice z.2.1 z.2.2.1 z.2.2.2) := fun h z hh hz => by
    have hlt := (List.getElem?_eq_some_iff.1 hz).1
    have := at_mid (P := P) (X := X) (Q := y :: Q) (k := h) (by omega) (by omega)
    rw [ha, hz] at this
    obtain ⟨c1, c2, -, -⟩ := et_at hown this
    exact ⟨c1, c2⟩
  have HH := Lib.hid (⟨S, hn, ha, hxl, hL9, hown, hX9, hX, hd⟩ : _ ∧ _ ∧ _ ∧ _ ∧ _ ∧ _ ∧ _ ∧ _ ∧ _)
  obtain ⟨R, hR⟩ : ∃ R, sortN (X ++ [y]) = R := ⟨_, rfl⟩
  have HR := Lib.hid hR
  rw [hR]
  rw [hxl] at hm hX1
  have hma : ((m : Int) - (a : Int) == 1) = false := beq_eq_false_iff_ne.2 (by omega)
  have hbm : (b : Int) - (m : Int) = 1 := by omega
  have hmn : (m : Int) < (n : Int) := by omega
  clear S hj hown hn hL9 hxl hX9 hX hd hR e0
  go_enter Tryz.func89, Tryz.ntmps89
  go_wp2_with fail
  clear hma hbm
  go_loopg [14, 15, 16] xl (fun gg iv jv hv wr => ∃ i j : Nat, gg = j - i ∧ iv = .int .i64 i ∧ jv = .int .i64 j ∧ a ≤ i ∧ i ≤ j ∧ j ≤ m ∧ (i = a ∨ ∃ z, X[i - 1 - a]? = some z ∧ ¬ ltB y.1 z.1) ∧ (j = m ∨ ∃ z, X[j - a]? = some z ∧ ltB y.1 z.1) ∧ Ext [] w wr)
  case atStart => exact ⟨a, m, by omega, rfl, rfl, by omega, by omega, by omega, .inl rfl, .inl rfl, Ext.refl _ _⟩
  case round =>
    obtain ⟨i, j, rfl, rfl, rfl, hmi, hij, hjb, hA, hB, hx⟩ := hrel
    by_cases hlt : i < j
    · obtain ⟨c, hc⟩ : ∃ c, (i + j) / 2 = c := ⟨_, rfl⟩
      have hc1 : i ≤ c := by omega
      have hc2 : c < j := by omega
      have hltz : (i : Int) < (j : Int) := by omega
      have hcn : (c : Int) < (n : Int) := by omega
      obtain ⟨z, hz⟩ : ∃ z, X[c - a]? = some z := ⟨_, List.getElem?_eq_getElem (by rw [HH.out.2.2.2.1]; omega)⟩
      obtain ⟨z1, z2⟩ := HH.out.2.2.2.2.2.2.1 c z (by omega) hz
      have c1 : ∀ V : Ex wr, V.w.cell? ⟨g, m * 2, none⟩ = some (.string y.1) := fun V => V.cell (hx.cell x1)
      have c2 : ∀ V : Ex wr, V.w.cell? ⟨g, m * 2 + 1, none⟩ = some (.slice y.2.1 y.2.2.1 y.2.2.2) := fun V => V.cell (hx.cell x2)
      have c3 : ∀ V : Ex wr, V.w.cell? ⟨g, c * 2, none⟩ = some (.string z.1) := fun V => V.cell (hx.cell z1)
      have c4 : ∀ V : Ex wr, V.w.cell? ⟨g, c * 2 + 1, none⟩ = some (.slice z.2.1 z.2.2.1 z.2.2.2) := fun V => V.cell (hx.cell z2)
      have HX := Lib.hid (⟨hA, hB, hx, hz, x1, x2⟩ : _ ∧ _ ∧ _ ∧ _ ∧ _ ∧ _)
      have hcz : ((i : Int) + (j : Int)) / 2 = (c : Int) := by omega
      clear hA hB hx hz z1 z2 hc x1 x2
      go_upto_region 17 with (fail)
      clear hcz
      refine wp_region_ext (by kernel_rfl) (by kernel_rfl) ?_
      repeat (go_big_quiet_step (first | (go_at_call 66; refine Calls.ext_of (cmp_walk _ _ _ _ _))))
      refine wpQuiet_nil ?_
      rintro _ ⟨V, rfl⟩
      obtain ⟨q, hq⟩ : ∃ q, cmpN y.1 z.1 = q := ⟨_, rfl⟩
      have hlt9 := cmpN_lt y.1 z.1
      rw [hq] at hlt9 ⊢
      have HV := Lib.hid (⟨HX.out.2.2.1.trans V.ext, hlt9⟩ : _ ∧ _)
      have x1 := HX.out.2.2.2.2.1
      have x2 := HX.out.2.2.2.2.2
      clear c1 c2 c3 c4 hq hlt9
      generalize V.w = U at *
      by_cases hq0 : q < 0
      · rw [show (!decide (q < 0)) = false by rw [decide_eq_true hq0]; rfl]
        go_wp2_with fail
        go_roundg (c - i)
        case measure => omega
        case rel => exact ⟨i, c, rfl, rfl, rfl, hmi, by omega, by omega, HX.out.1, .inr ⟨z, HX.out.2.2.2.1, HV.out.2.1 hq0⟩, HV.out.1⟩
      · rw [show (!decide (q < 0)) = true by rw [decide_eq_false hq0]; rfl]
        go_wp2_with fail
        go_roundg (j - (c + 1))
        case measure => omega
        case rel => exact ⟨c + 1, j, rfl, by go_num, rfl, by omega, by omega, hjb, .inr ⟨z, by rw [Nat.add_sub_cancel]; exact HX.out.2.2.2.1, fun h => (by have := HV.out.2.2 h; omega)⟩, HX.out.2.1, HV.out.1⟩
    · obtain rfl : i = j := by omega
      have hltz : ¬ (i : Int) < (i : Int) := by omega
      obtain ⟨c, hc⟩ : ∃ c, i - a = c := ⟨_, rfl⟩
      have hcl : c ≤ xl := by omega
      have hnd : ∀ z ∈ X, z.1 ≠ y.1 := fun z hz e => by
        have h9 := HH.out.2.2.2.2.2.2.2.2
        rw [ndE, List.map_append, List.nodup_append] at h9
        exact h9.2.2 z.1 (List.mem_map_of_mem hz) y.1 (by simp) e
      have hup : upE (X.take c ++ y :: X.drop c) := by
        refine put_mid HH.out.2.2.2.2.2.2.2.1 (take_less HH.out.2.2.2.2.2.2.2.1 ?_) (drop_less HH.out.2.2.2.2.2.2.2.1 ?_)
        · rcases hA with h | ⟨z, h1, h2⟩
          · exact .inl (by omega)
          · exact .inr ⟨z, by rw [← hc, show i - a - 1 = i - 1 - a by omega]; exact h1, less_of h2 (fun e => hnd z (List.mem_of_getElem? h1) e)⟩
        · rcases hB with h | ⟨z, h1, h2⟩
          · exact .inl (by rw [HH.out.2.2.2.1]; omega)
          · exact .inr ⟨z, by rw [← hc]; exact h1, h2⟩
      have hsrt : sortN (X ++ [y]) = X.take c ++ y :: X.drop c := sym_eq HH.out.2.2.2.2.2.2.2.2 hup (by
        refine List.perm_middle.trans ?_
        rw [List.take_append_drop]
        exact (List.perm_append_singleton y X).symm)
      rw [HR.out] at hsrt
      clear HR
      subst hsrt
      have HX := Lib.hid hx
      obtain ⟨d, hd⟩ : ∃ d, xl - c = d := ⟨_, rfl⟩
      clear hA hB hx hup hnd
      go_wp2_with fail
      clear hltz
      go_loopg [17] d (fun gg kv wr => ∃ (k : Nat) (Z1 Z2 : List Et), gg + i = k ∧ kv = .int .i64 k ∧ X.drop c = Z1 ++ Z2 ∧ i + Z1.length = k ∧ Sep w0 wr (L.set jj (oEt (.slice (some ⟨g, 0, none⟩) n cap) (P ++ (X.take c ++ ((Z1 ++ y :: Z2) ++ Q))))))
      case atStart =>
        refine ⟨m, X.drop c, [], by omega, rfl, by rw [List.append_nil], by rw [List.length_drop, HH.out.2.2.2.1]; omega, ?_⟩
        have e : P ++ (X.take c ++ ((X.drop c ++ [y]) ++ Q)) = P ++ (X ++ (y :: Q)) := by
          rw [List.append_assoc, ← List.append_assoc (X.take c), List.take_append_drop]; rfl
        rw [e, HH.out.2.2.2.2.1]
        exact HH.out.1.quiet HX.out
      case round =>
        obtain ⟨k, Z1, Z2, hgk, rfl, hZ, hZ1, S⟩ := hrel
        have hZl : Z1.length + Z2.length + c = xl := by rw [← List.length_append, ← hZ, List.length_drop, HH.out.2.2.2.1]; omega
        have hPc : (P ++ X.take c).length = i := by rw [List.length_append, List.length_take, HH.out.2.2.2.1, HH.out.2.2.1]; omega
        by_cases hkc : i < k
        · obtain ⟨gg, rfl⟩ : ∃ gg, gk = gg + 1 := ⟨gk - 1, by omega⟩
          obtain ⟨k2, rfl⟩ : ∃ k2, k = k2 + 1 := ⟨k - 1, by omega⟩
          obtain ⟨Z3, z, rfl⟩ : ∃ Z3 z, Z1 = Z3 ++ [z] := by
            rcases List.eq_nil_or_concat Z1 with h | ⟨Z3, z, h⟩
            · subst h; simp at hZ1; omega
            · exact ⟨Z3, z, by rw [h]; simp⟩
          have hkz : (i : Int) < (k2 : Int) + 1 := by omega
          rw [List.length_append, List.length_singleton] at hZ1 hZl
          have e1 : P ++ (X.take c ++ (((Z3 ++ [z]) ++ y :: Z2) ++ Q)) = (P ++ X.take c ++ Z3) ++ z :: y :: (Z2 ++ Q) := by simp
          have hlen : (P ++ (X.take c ++ (((Z3 ++ [z]) ++ y :: Z2) ++ Q))).length = n := by
            have h1 := HH.out.2.1
            simp only [List.length_append, List.length_cons, List.length_take, List.length_nil, HH.out.2.2.2.1] at h1 hZl ⊢
            omega
          have hown : wr.ownsRow 0 62 2 (.slice (some ⟨g, 0, none⟩) n cap) n (etC ((P ++ X.take c ++ Z3) ++ z :: y :: (Z2 ++ Q))) := by
            have h1 : wr.ownsRow 0 62 2 (.slice (some ⟨g, 0, none⟩) n cap) (P ++ (X.take c ++ (((Z3 ++ [z]) ++ y :: Z2) ++ Q))).length (etC (P ++ (X.take c ++ (((Z3 ++ [z]) ++ y :: Z2) ++ Q)))) := S.get jj (List.getElem?_set_self hjl)
            rw [hlen, e1] at h1
            exact h1
          have l1 : (P ++ X.take c ++ Z3).length = k2 := by rw [List.length_append, hPc]; omega
          have e2 : (P ++ X.take c ++ Z3) ++ z :: y :: (Z2 ++ Q) = (P ++ X.take c ++ Z3 ++ [z]) ++ y :: (Z2 ++ Q) := by simp
          have l2 : (P ++ X.take c ++ Z3 ++ [z]).length = k2 + 1 := by rw [List.length_append, l1]; rfl
          obtain ⟨p1, p2, p3, p4⟩ := et_cells hown k2 l1
          obtain ⟨q1, q2, q3, q4⟩ := et_cells (e2 ▸ hown) (k2 + 1) l2
          have h2 := et_swap hown k2 l1
          have e4 : (P ++ X.take c ++ Z3) ++ y :: z :: (Z2 ++ Q) = P ++ (X.take c ++ ((Z3 ++ y :: (z :: Z2)) ++ Q)) := by simp
          have hlen2 : (P ++ (X.take c ++ ((Z3 ++ y :: (z :: Z2)) ++ Q))).length = n := by
            rw [← hlen]
            simp only [List.length_append, List.length_cons, List.length_nil]
            omega
          have S2 := S.upd jj (oEt (.slice (some ⟨g, 0, none⟩) n cap) (P ++ (X.take c ++ ((Z3 ++ y :: (z :: Z2)) ++ Q)))) (List.getElem?_set_self hjl) (((((Ext.refl _ wr).setCell ⟨g, (k2 + 1) * 2, none⟩ (.string z.1) (.inl (by simp [oEt, oSl, Value.ownBlock]))).setCell ⟨g, (k2 + 1) * 2 + 1, none⟩ (.slice z.2.1 z.2.2.1 z.2.2.2) (.inl (by simp [oEt, oSl, Value.ownBlock]))).setCell ⟨g, k2 * 2, none⟩ (.string y.1) (.inl (by simp [oEt, oSl, Value.ownBlock]))).setCell ⟨g, k2 * 2 + 1, none⟩ (.slice y.2.1 y.2.2.1 y.2.2.2) (.inl (by simp [oEt, oSl, Value.ownBlock]))) (Fr.refl _ _) (by
            show World.ownsRow _ 0 62 2 _ (P ++ (X.take c ++ ((Z3 ++ y :: (z :: Z2)) ++ Q))).length _
            rw [hlen2, ← e4]
            exact h2)
          rw [List.set_set] at S2
          have hZ' : X.drop c = Z3 ++ (z :: Z2) := by rw [hZ]; simp
          have HS := Lib.hid (⟨S2, hZ', hZ1⟩ : _ ∧ _ ∧ _)
          have hak : (k2 : Int) < (n : Int) := by omega
          have hak2 : (k2 : Int) + 1 < (n : Int) := by omega
          clear S S2 hZ hZ' hZ1 hown e1 e2 e4 l1 l2 h2 hlen hlen2 hZl hPc
          go_upto_region 23 with (fail)
          go_region
          go_wp2_with fail
          go_roundg gg
          case measure => omega
          case rel =>
            exact ⟨k2, Z3, z :: Z2, by omega, by go_num, HS.out.2.1, by have := HS.out.2.2; omega, HS.out.1.quiet ((Ext.refl _ _).drew)⟩
        · obtain rfl : gk = 0 := by omega
          obtain rfl : i = k := by omega
          have hkz : ¬ (i : Int) < (i : Int) := by omega
          obtain rfl : Z1 = [] := List.length_eq_zero_iff.1 (by omega)
          rw [List.nil_append] at hZ S
          subst hZ
          have HS := Lib.hid S
          clear S hZ1 hZl hPc
          go_wp2_with fail
          (try simp only [Exit.inBlock, Exit.then])
          refine bodyPost_ret (results_none rfl _ _ _) rfl ?_
          refine ⟨rfl, ?_⟩
          have e : P ++ (X.take c ++ ((y :: X.drop c) ++ Q)) = P ++ ((X.take c ++ y :: X.drop c) ++ Q) := by simp
          have h9 := HS.out
          rw [e] at h9
          simpa only [List.append_assoc, List.cons_append] using h9
end Go.Proofs.YtkjcjklnclahdaaGreatDoor.Tr
