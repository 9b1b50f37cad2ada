/-
  tree: symMergeCmpFunc of entries walked.
-/
import Derived.Test.YtkjcjklnclahdaaGreatDoorTtJ
namespace Go.Proofs.YtkjcjklnclahdaaGreatDoor.Tr
open Go.RowKit

theorem cut_at {X : List Et} {c : Nat} (h : c ≤ X.length) : ∃ X1 X2, X = X1 ++ X2 ∧ X1.length = c ∧ X2.length = X.length - c ∧ X.take c = X1 ∧ X.drop c = X2 :=
  ⟨X.take c, X.drop c, by rw [List.take_append_drop], by rw [List.length_take]; omega, List.length_drop, rfl, rfl⟩
theorem nd_ne {X Y : List Et} (hd : ndE (X ++ Y)) {x y : Et} (hx : x ∈ X) (hy : y ∈ Y) : x.1 ≠ y.1 := by
  rw [ndE, List.map_append, List.nodup_append] at hd
  exact hd.2.2 _ (List.mem_map_of_mem hx) _ (List.mem_map_of_mem hy)
theorem up_nd {X : List Et} (h : upE X) : ndE X := by
  rw [ndE, List.Nodup, List.pairwise_map]
  exact h.imp fun {a b} hab e => by rw [e] at hab; exact ltB_irrefl _ hab
theorem up_app_nil {X : List Et} (h : upE X) : sortN X = X := sym_eq (up_nd h) h (List.Perm.refl _)
set_option maxRecDepth 100000 in
set_option maxHeartbeats 8000000 in
theorem sym_walk : ∀ (G : Nat) (w0 w : World) (L : List Ob) (jj : Nat) (v : Value) (P X Y Q : List Et) (_ : Sep w0 w L) (_ : L[jj]? = some (oEt v (P ++ (X ++ (Y ++ Q))))) (_ : (P ++ (X ++ (Y ++ Q))).length ≤ 1000) (a m b : Nat) (_ : P.length = a) (_ : a + X.length = m) (_ : m + Y.length = b) (_ : 0 < X.length) (_ : 0 < Y.length) (_ : upE X) (_ : upE Y) (_ : ndE (X ++ Y)), X.length + Y.length ≤ G →
    Calls Tryz.prog 89 #[v, .int .i64 a, .int .i64 m, .int .i64 b, .func (.func 66) #[] #[]] w fun e w' => e = .returned (.tuple #[]) ∧ Sep w0 w' (L.set jj (oEt v (P ++ (sortN (X ++ Y) ++ Q)))) := by
  intro G
  induction G with
  | zero => intro w0 w L jj v P X Y Q S hj hl a m b ha hm hb hX0 hY0 hX hY hd hG; omega
  | succ G IH =>
  intro w0 w L jj v P X Y Q S hj hl a m b ha hm hb hX0 hY0 hX hY hd hG
  by_cases hX1 : X.length = 1
  · obtain ⟨x, rfl⟩ := List.length_eq_one_iff.1 hX1
    exact symA_walk w0 w L jj v P Y Q x S hj hl a m b ha hm hb hY hd
  by_cases hY1 : Y.length = 1
  · obtain ⟨y, rfl⟩ := List.length_eq_one_iff.1 hY1
    exact symB_walk w0 w L jj v P X Q y S hj hl a m b ha hm hb hX1 hX hd
  obtain ⟨n, hn⟩ : ∃ n, (P ++ (X ++ (Y ++ Q))).length = n := ⟨_, rfl⟩
  have hown : w.ownsRow 0 62 2 v (P ++ (X ++ (Y ++ Q))).length (etC (P ++ (X ++ (Y ++ Q)))) := S.get jj hj
  rw [hn] at hown
  have hbn : b ≤ n := by rw [← hn]; simp only [List.length_append]; omega
  obtain ⟨g, cap, hv⟩ := row_form hown (by omega)
  subst hv
  have hjl : jj < L.length := (List.getElem?_eq_some_iff.1 hj).1
  have hL9 : L.set jj (oEt (.slice (some ⟨g, 0, none⟩) n cap) (P ++ (X ++ (Y ++ Q)))) = L := set_self hj
  rw [hn] at hl
  obtain ⟨xl, hxl⟩ : ∃ xl, X.length = xl := ⟨_, rfl⟩
  obtain ⟨yl, hyl⟩ : ∃ yl, Y.length = yl := ⟨_, rfl⟩
  have hX9 : ∀ (h : Nat) (z : Et), a ≤ h → X[h - a]? = some z → w.cell? ⟨g, h * 2, none⟩ = some (.string z.1) ∧ w.cell? ⟨g, h * 2 + 1, none⟩ = some (.slice z.2.1 z.2.2.1 z.2.2.2) := fun h z hh hz => by
    have hlt := (List.getElem?_eq_some_iff.1 hz).1
    have := at_mid (P := P) (X := X) (Q := Y ++ Q) (k := h) (by omega) (by omega)
    rw [ha, hz] at this
    obtain ⟨c1, c2, -, -⟩ := et_at hown this
    exact ⟨c1, c2⟩
  have hY9 : ∀ (h : Nat) (z : Et), m ≤ h → Y[h - m]? = some z → w.cell? ⟨g, h * 2, none⟩ = some (.string z.1) ∧ w.cell? ⟨g, h * 2 + 1, none⟩ = some (.slice z.2.1 z.2.2.1 z.2.2.2) := fun h z hh hz => by
    have hlt := (List.getElem?_eq_some_iff.1 hz).1
    have := at_end (P := P) (X := X) (Y := Y) (Q := Q) (k := h) (by omega) (by omega)
    rw [show h - (P.length + X.length) = h - m by omega, hz] at this
    obtain ⟨c1, c2, -, -⟩ := et_at hown this
    exact ⟨c1, c2⟩
  obtain ⟨R, hR⟩ : ∃ R, sortN (X ++ Y) = R := ⟨_, rfl⟩
  have HR := Lib.hid hR
  rw [hR]
  have HH := Lib.hid (⟨S, hn, ha, hxl, hyl, hL9, hown, hX9, hY9, hX, hY, hd⟩ : _ ∧ _ ∧ _ ∧ _ ∧ _ ∧ _ ∧ _ ∧ _ ∧ _ ∧ _ ∧ _ ∧ _)
  rw [hxl] at hm hX0 hX1 hG
  rw [hyl] at hb hY0 hY1 hG
  have HI := Lib.hid IH
  obtain ⟨d, hd2⟩ : ∃ d, (a + b) / 2 = d := ⟨_, rfl⟩
  obtain ⟨s0, r0, hsr⟩ : ∃ s0 r0 : Nat, (d < m ∧ s0 + b = d + m ∧ r0 = d) ∨ (m ≤ d ∧ s0 = a ∧ r0 = m) := by
    by_cases h : d < m
    · exact ⟨d + m - b, d, .inl ⟨h, by omega, rfl⟩⟩
    · exact ⟨a, m, .inr ⟨by omega, rfl, rfl⟩⟩
  have hma : ((m : Int) - (a : Int) == 1) = false := beq_eq_false_iff_ne.2 (by omega)
  have hbm : ((b : Int) - (m : Int) == 1) = false := beq_eq_false_iff_ne.2 (by omega)
  have hdz : ((a : Int) + (b : Int)) / 2 = (d : Int) := by omega
  have had : a < d := by omega
  have hdb : d < b := by omega
  have hr0m : r0 ≤ m := by omega
  have hr0d : r0 ≤ d := by omega
  have hs0a : a ≤ s0 := by omega
  have hs0r : s0 ≤ r0 := by omega
  have hs0b : d + m ≤ s0 + b := by omega
  clear S hj hown hn hL9 hxl hyl hX9 hY9 hX hY hd hR IH
  go_enter Tryz.func89, Tryz.ntmps89
  go_upto_if 140 with fail
  clear hma hbm hdz
  obtain ⟨B, hB⟩ : ∃ B, decide (d < m) = B := ⟨_, rfl⟩
  rw [hB]
  go_cut [20, 21] from 141 to 146 (fun sv rv wx => sv = .int .i64 s0 ∧ rv = .int .i64 r0 ∧ w = wx)
  case first =>
    by_cases h : d < m
    · obtain rfl : B = true := by rw [← hB, decide_eq_true h]
      clear hB
      have hz : (d : Int) < (m : Int) := by omega
      have hs9 : (d : Int) + (m : Int) - (b : Int) = (s0 : Int) := by omega
      obtain rfl : r0 = d := by omega
      go_wp2_with fail
      go_meet
      exact ⟨rfl, rfl, rfl⟩
    · obtain rfl : B = false := by rw [← hB, decide_eq_false h]
      clear hB
      have hz : ¬ (d : Int) < (m : Int) := by omega
      obtain rfl : s0 = a := by omega
      obtain rfl : r0 = m := by omega
      go_wp2_with fail
      go_meet
      exact ⟨rfl, rfl, rfl⟩
  case rest =>
  obtain ⟨rfl, rfl, rfl⟩ := hcut
  clear hB
  go_wp2_with fail
  go_loopg [20, 21, 23] (r0 - s0) (fun gg sv rv cv wr => ∃ s r : Nat, gg = r - s ∧ sv = .int .i64 s ∧ rv = .int .i64 r ∧ s0 ≤ s ∧ s ≤ r ∧ r ≤ r0 ∧ (s = s0 ∨ ∃ x y, X[s - 1 - a]? = some x ∧ Y[d - s]? = some y ∧ ¬ ltB y.1 x.1) ∧ (r = r0 ∨ ∃ x y, X[r - a]? = some x ∧ Y[d - 1 - r]? = some y ∧ ltB y.1 x.1) ∧ Ext [] w wr)
  case atStart => exact ⟨s0, r0, rfl, rfl, rfl, by omega, by omega, by omega, .inl rfl, .inl rfl, Ext.refl _ _⟩
  case round =>
    obtain ⟨s, r, rfl, rfl, rfl, hs0, hsr2, hrr, hA, hB, hx⟩ := hrel
    by_cases hlt : s < r
    · obtain ⟨c, hc⟩ : ∃ c, (s + r) / 2 = c := ⟨_, rfl⟩
      have hc1 : s ≤ c := by omega
      have hc2 : c < r := by omega
      have hltz : (s : Int) < (r : Int) := by omega
      have hcn : (c : Int) < (n : Int) := by omega
      obtain ⟨q, hq⟩ : ∃ q, d + m - 1 - c = q := ⟨_, rfl⟩
      have hqm : m ≤ q := by omega
      have hqb : q < b := by omega
      have hqn : (q : Int) < (n : Int) := by omega
      obtain ⟨x, hxz⟩ : ∃ z, X[c - a]? = some z := ⟨_, List.getElem?_eq_getElem (by rw [HH.out.2.2.2.1]; omega)⟩
      obtain ⟨y, hyz⟩ : ∃ z, Y[q - m]? = some z := ⟨_, List.getElem?_eq_getElem (by rw [HH.out.2.2.2.2.1]; omega)⟩
      obtain ⟨x1, x2⟩ := HH.out.2.2.2.2.2.2.2.1 c x (by omega) hxz
      obtain ⟨y1, y2⟩ := HH.out.2.2.2.2.2.2.2.2.1 q y (by omega) hyz
      have c1 : ∀ V : Ex wr, V.w.cell? ⟨g, c * 2, none⟩ = some (.string x.1) := fun V => V.cell (hx.cell x1)
      have c2 : ∀ V : Ex wr, V.w.cell? ⟨g, c * 2 + 1, none⟩ = some (.slice x.2.1 x.2.2.1 x.2.2.2) := fun V => V.cell (hx.cell x2)
      have c3 : ∀ V : Ex wr, V.w.cell? ⟨g, q * 2, none⟩ = some (.string y.1) := fun V => V.cell (hx.cell y1)
      have c4 : ∀ V : Ex wr, V.w.cell? ⟨g, q * 2 + 1, none⟩ = some (.slice y.2.1 y.2.2.1 y.2.2.2) := fun V => V.cell (hx.cell y2)
      have HX := Lib.hid (⟨hA, hB, hx, hxz, by rw [← hq, show d + m - 1 - c - m = d - 1 - c by omega] at hyz; exact hyz⟩ : _ ∧ _ ∧ _ ∧ _ ∧ Y[d - 1 - c]? = some y)
      have hcz : ((s : Int) + (r : Int)) / 2 = (c : Int) := by omega
      have hqz : (d : Int) + (m : Int) - 1 - (c : Int) = (q : Int) := by omega
      clear hA hB hx hxz hyz hc x1 x2 y1 y2 hsr
      go_upto_region 35 with (fail)
      clear hcz
      refine wp_region_ext (by kernel_rfl) (by kernel_rfl) ?_
      repeat (go_big_quiet_step (first | (go_at_call 66; refine Calls.ext_of (cmp_walk _ _ _ _ _))))
      refine wpQuiet_nil ?_
      rintro _ ⟨V, rfl⟩
      obtain ⟨z, hz⟩ : ∃ z, cmpN y.1 x.1 = z := ⟨_, rfl⟩
      have hlt9 := cmpN_lt y.1 x.1
      rw [hz] at hlt9 ⊢
      have HV := Lib.hid (⟨HX.out.2.2.1.trans V.ext, hlt9⟩ : _ ∧ _)
      clear c1 c2 c3 c4 hz hlt9 hqz
      generalize V.w = U at *
      by_cases hq0 : z < 0
      · rw [show (!decide (z < 0)) = false by rw [decide_eq_true hq0]; rfl]
        go_wp2_with fail
        go_roundg (c - s)
        case measure => omega
        case rel => exact ⟨s, c, rfl, rfl, rfl, hs0, by omega, by omega, HX.out.1, .inr ⟨x, y, HX.out.2.2.2.1, HX.out.2.2.2.2, HV.out.2.1 hq0⟩, HV.out.1⟩
      · rw [show (!decide (z < 0)) = true by rw [decide_eq_false hq0]; rfl]
        go_wp2_with fail
        go_roundg (r - (c + 1))
        case measure => omega
        case rel => exact ⟨c + 1, r, rfl, by go_num, rfl, by omega, by omega, hrr, .inr ⟨x, y, by rw [Nat.add_sub_cancel]; exact HX.out.2.2.2.1, by rw [show d - (c + 1) = d - 1 - c by omega]; exact HX.out.2.2.2.2, fun h => (by have := HV.out.2.2 h; omega)⟩, HX.out.2.1, HV.out.1⟩
    · obtain rfl : s = r := by omega
      have hltz : ¬ (s : Int) < (s : Int) := by omega
      obtain ⟨e, he⟩ : ∃ e, d + m - s = e := ⟨_, rfl⟩
      have hez : (d : Int) + (m : Int) - (s : Int) = (e : Int) := by omega
      have hem : m ≤ e := by omega
      have heb : e ≤ b := by omega
      have hsm : s ≤ m := by omega
      have hsd : s ≤ d := by omega
      have has : a ≤ s := by omega
      have hsplit := sym_split (c := s - a) (d := d - s) HH.out.2.2.2.2.2.2.2.2.2.1 HH.out.2.2.2.2.2.2.2.2.2.2.1 HH.out.2.2.2.2.2.2.2.2.2.2.2 (by
        by_cases h0 : s = s0
        · refine .inl ?_
          rw [HH.out.2.2.2.2.1]
          omega
        · rcases hA with h | ⟨x, y, h1, h2, h3⟩
          · exact absurd h h0
          · exact .inr ⟨x, y, by rw [show s - a - 1 = s - 1 - a by omega]; exact h1, h2, less_of h3 (nd_ne HH.out.2.2.2.2.2.2.2.2.2.2.2 (List.mem_of_getElem? h1) (List.mem_of_getElem? h2))⟩) (by
        rcases hB with h | ⟨x, y, h1, h2, h3⟩
        · refine .inl ?_
          rw [HH.out.2.2.2.1]
          omega
        · exact .inr ⟨y, x, by rw [show d - s - 1 = d - 1 - s by omega]; exact h2, h1, h3⟩)
      obtain ⟨X1, X2, hXe, hX1l, hX2l, hx1, hx2⟩ := cut_at (X := X) (c := s - a) (by rw [HH.out.2.2.2.1]; omega)
      obtain ⟨Y1, Y2, hYe, hY1l, hY2l, hy1, hy2⟩ := cut_at (X := Y) (c := d - s) (by rw [HH.out.2.2.2.2.1]; omega)
      rw [hx1, hx2, hy1, hy2, HR.out] at hsplit
      rw [HH.out.2.2.2.1] at hX2l
      rw [HH.out.2.2.2.2.1] at hY2l
      have S0 := HH.out.1.quiet hx
      rw [← HH.out.2.2.2.2.2.1] at S0
      have hln := HH.out.2.1
      have hu1 := HH.out.2.2.2.2.2.2.2.2.2.1
      have hu2 := HH.out.2.2.2.2.2.2.2.2.2.2.1
      have hnd := HH.out.2.2.2.2.2.2.2.2.2.2.2
      have hPa := HH.out.2.2.1
      clear hA hB hx hx1 hx2 hy1 hy2 HR HH hsr
      subst hXe hYe
      have hnd1 : ndE (X1 ++ Y1) := ndE_sub (List.Sublist.append (List.sublist_append_left _ _) (List.sublist_append_left _ _)) hnd
      have hnd2 : ndE (X2 ++ Y2) := ndE_sub (List.Sublist.append (List.sublist_append_right _ _) (List.sublist_append_right _ _)) hnd
      have u1 : upE X1 := hu1.sublist (List.sublist_append_left _ _)
      have u2 : upE X2 := hu1.sublist (List.sublist_append_right _ _)
      have u3 : upE Y1 := hu2.sublist (List.sublist_append_left _ _)
      have u4 : upE Y2 := hu2.sublist (List.sublist_append_right _ _)
      obtain ⟨S1, hS1⟩ : ∃ S1, sortN (X1 ++ Y1) = S1 := ⟨_, rfl⟩
      obtain ⟨S2, hS2⟩ : ∃ S2, sortN (X2 ++ Y2) = S2 := ⟨_, rfl⟩
      rw [hS1, hS2] at hsplit
      subst hsplit
      have hS1l : S1.length = X1.length + Y1.length := by rw [← hS1, sortN_len, List.length_append]
      have e0 : P ++ ((X1 ++ X2) ++ ((Y1 ++ Y2) ++ Q)) = (P ++ X1) ++ (X2 ++ (Y1 ++ (Y2 ++ Q))) := by simp
      rw [e0] at S0 hln
      have hl2 : ((P ++ X1) ++ (Y1 ++ (X2 ++ (Y2 ++ Q)))).length = n := by rw [← hln]; simp only [List.length_append]; omega
      have hl3 : (P ++ (X1 ++ (Y1 ++ (X2 ++ (Y2 ++ Q))))).length = n := by rw [← hl2]; simp only [List.length_append]; omega
      have hl4 : (P ++ (S1 ++ (X2 ++ (Y2 ++ Q)))).length = n := by rw [← hl3]; simp only [List.length_append]; omega
      have hl5 : ((P ++ S1) ++ (X2 ++ (Y2 ++ Q))).length = n := by rw [← hl4]; simp only [List.length_append]; omega
      have hPX : (P ++ X1).length = s := by rw [List.length_append]; omega
      have hPS : (P ++ S1).length = d := by rw [List.length_append]; omega
      -- what is called
      have K0 := Lib.hid (fun h1 h2 => rot_walk w0 wr _ jj (.slice (some ⟨g, 0, none⟩) n cap) (P ++ X1) X2 Y1 (Y2 ++ Q) S0 (List.getElem?_set_self hjl) (by rw [hln]; exact hl) s m e hPX (by omega) (by omega) h1 h2)
      have K1 := Lib.hid (fun W (S : Sep w0 W (L.set jj (oEt (.slice (some ⟨g, 0, none⟩) n cap) (P ++ (X1 ++ (Y1 ++ (X2 ++ (Y2 ++ Q)))))))) h1 h2 => HI.out w0 W _ jj (.slice (some ⟨g, 0, none⟩) n cap) P X1 Y1 (X2 ++ (Y2 ++ Q)) S (List.getElem?_set_self hjl) (by rw [hl3]; exact hl) a s d hPa (by omega) (by omega) h1 h2 u1 u3 hnd1 (by omega))
      have K2 := Lib.hid (fun W (S : Sep w0 W (L.set jj (oEt (.slice (some ⟨g, 0, none⟩) n cap) ((P ++ S1) ++ (X2 ++ (Y2 ++ Q)))))) h1 h2 => HI.out w0 W _ jj (.slice (some ⟨g, 0, none⟩) n cap) (P ++ S1) X2 Y2 Q S (List.getElem?_set_self hjl) (by rw [hl5]; exact hl) d e b hPS (by omega) (by omega) h1 h2 u2 u4 hnd2 (by omega))
      rw [hS1] at K1
      rw [hS2] at K2
      simp only [List.set_set] at K0 K1 K2
      have e1 : (P ++ X1) ++ (Y1 ++ (X2 ++ (Y2 ++ Q))) = P ++ (X1 ++ (Y1 ++ (X2 ++ (Y2 ++ Q)))) := by simp
      have e2 : P ++ (S1 ++ (X2 ++ (Y2 ++ Q))) = (P ++ S1) ++ (X2 ++ (Y2 ++ Q)) := by simp
      have e3 : (P ++ S1) ++ (S2 ++ Q) = P ++ ((S1 ++ S2) ++ Q) := by simp
      rw [e1] at K0
      rw [e2] at K1
      rw [e3] at K2
      have HU := Lib.hid (⟨u1, u2, u3, u4, hS1, hS2, hX1l, hX2l, hY1l, hY2l, S0, e1, e2, e3⟩ : _ ∧ _ ∧ _ ∧ _ ∧ _ ∧ _ ∧ _ ∧ _ ∧ _ ∧ _ ∧ _ ∧ _ ∧ _ ∧ _)
      clear u1 u2 u3 u4 hS1 hS2 hX1l hX2l hY1l hY2l S0 e0 e1 e2 e3 hln hl2 hl3 hl4 hl5 hPX hPS hS1l hnd1 hnd2 hu1 hu2 hnd hPa HI
      by_cases h1 : s < m
      · skip
        by_cases h2 : s < d
        · skip
          by_cases h3 : a < s
          · skip
            by_cases h4 : e < b
            · have f1 :  (s : Int) < (m : Int) := by omega
              have f2 :  (m : Int) < (e : Int) := by omega
              have f3 :  (a : Int) < (s : Int) := by omega
              have f4 :  (s : Int) < (d : Int) := by omega
              have f5 :  (d : Int) < (e : Int) := by omega
              have f6 :  (e : Int) < (b : Int) := by omega
              have hx1l := HU.out.2.2.2.2.2.2.1
              have hx2l := HU.out.2.2.2.2.2.2.2.1
              have hy1l := HU.out.2.2.2.2.2.2.2.2.1
              have hy2l := HU.out.2.2.2.2.2.2.2.2.2.1
              have p2 : 0 < X2.length := by omega
              have p3 : 0 < Y1.length := by omega
              have p1 : 0 < X1.length := by omega
              have p4 : 0 < Y2.length := by omega
              clear hx1l hx2l hy1l hy2l
              have C0 := Lib.hid (K0.out p2 p3)
              clear K0
              go_wp2_with fail
              refine C0.out.mono ?_
              rintro ee w2 ⟨rfl, S⟩
              have HS := Lib.hid S
              clear S C0
              have C1 := Lib.hid (K1.out _ HS.out p1 p3)
              clear K1 HS
              go_wp2_with fail
              refine C1.out.mono ?_
              rintro ee w3 ⟨rfl, S⟩
              have HS := Lib.hid S
              clear S C1
              have C2 := Lib.hid (K2.out _ HS.out p2 p4)
              clear K2 HS
              go_wp2_with fail
              refine C2.out.mono ?_
              rintro ee w4 ⟨rfl, S⟩
              have HS := Lib.hid S
              clear S C2
              go_wp2_with fail
              go_end0
              exact ⟨rfl, by simpa using HS.out⟩
            · have f1 :  (s : Int) < (m : Int) := by omega
              have f2 :  (m : Int) < (e : Int) := by omega
              have f3 :  (a : Int) < (s : Int) := by omega
              have f4 :  (s : Int) < (d : Int) := by omega
              have f5 :  (d : Int) < (e : Int) := by omega
              have f6 : ¬ (e : Int) < (b : Int) := by omega
              have hx1l := HU.out.2.2.2.2.2.2.1
              have hx2l := HU.out.2.2.2.2.2.2.2.1
              have hy1l := HU.out.2.2.2.2.2.2.2.2.1
              have hy2l := HU.out.2.2.2.2.2.2.2.2.2.1
              obtain rfl : Y2 = [] := List.length_eq_zero_iff.1 (by omega)
              have p2 : 0 < X2.length := by omega
              have p3 : 0 < Y1.length := by omega
              have p1 : 0 < X1.length := by omega
              clear hx1l hx2l hy1l hy2l
              have C0 := Lib.hid (K0.out p2 p3)
              clear K0
              go_wp2_with fail
              refine C0.out.mono ?_
              rintro ee w2 ⟨rfl, S⟩
              have HS := Lib.hid S
              clear S C0
              have C1 := Lib.hid (K1.out _ HS.out p1 p3)
              clear K1 HS
              go_wp2_with fail
              refine C1.out.mono ?_
              rintro ee w3 ⟨rfl, S⟩
              have HS := Lib.hid S
              clear S C1
              have hs2 := HU.out.2.2.2.2.2.1
              rw [List.append_nil, up_app_nil HU.out.2.1] at hs2
              subst hs2
              clear K2
              go_wp2_with fail
              go_end0
              exact ⟨rfl, by simpa using HS.out⟩
          · skip
            by_cases h4 : e < b
            · have f1 :  (s : Int) < (m : Int) := by omega
              have f2 :  (m : Int) < (e : Int) := by omega
              have f3 : ¬ (a : Int) < (s : Int) := by omega
              have f4 :  (s : Int) < (d : Int) := by omega
              have f5 :  (d : Int) < (e : Int) := by omega
              have f6 :  (e : Int) < (b : Int) := by omega
              have hx1l := HU.out.2.2.2.2.2.2.1
              have hx2l := HU.out.2.2.2.2.2.2.2.1
              have hy1l := HU.out.2.2.2.2.2.2.2.2.1
              have hy2l := HU.out.2.2.2.2.2.2.2.2.2.1
              obtain rfl : X1 = [] := List.length_eq_zero_iff.1 (by omega)
              have p2 : 0 < X2.length := by omega
              have p3 : 0 < Y1.length := by omega
              have p4 : 0 < Y2.length := by omega
              clear hx1l hx2l hy1l hy2l
              have C0 := Lib.hid (K0.out p2 p3)
              clear K0
              go_wp2_with fail
              refine C0.out.mono ?_
              rintro ee w2 ⟨rfl, S⟩
              have HS := Lib.hid S
              clear S C0
              have hs1 := HU.out.2.2.2.2.1
              rw [List.nil_append, up_app_nil HU.out.2.2.1] at hs1
              subst hs1
              clear K1
              have HS := Lib.hid (show Sep w0 w2 (L.set jj (oEt (.slice (some ⟨g, 0, none⟩) n cap) ((P ++ Y1) ++ (X2 ++ (Y2 ++ Q))))) from by simpa using HS.out)
              have C2 := Lib.hid (K2.out _ HS.out p2 p4)
              clear K2 HS
              go_wp2_with fail
              refine C2.out.mono ?_
              rintro ee w4 ⟨rfl, S⟩
              have HS := Lib.hid S
              clear S C2
              go_wp2_with fail
              go_end0
              exact ⟨rfl, by simpa using HS.out⟩
            · have f1 :  (s : Int) < (m : Int) := by omega
              have f2 :  (m : Int) < (e : Int) := by omega
              have f3 : ¬ (a : Int) < (s : Int) := by omega
              have f4 :  (s : Int) < (d : Int) := by omega
              have f5 :  (d : Int) < (e : Int) := by omega
              have f6 : ¬ (e : Int) < (b : Int) := by omega
              have hx1l := HU.out.2.2.2.2.2.2.1
              have hx2l := HU.out.2.2.2.2.2.2.2.1
              have hy1l := HU.out.2.2.2.2.2.2.2.2.1
              have hy2l := HU.out.2.2.2.2.2.2.2.2.2.1
              obtain rfl : X1 = [] := List.length_eq_zero_iff.1 (by omega)
              obtain rfl : Y2 = [] := List.length_eq_zero_iff.1 (by omega)
              have p2 : 0 < X2.length := by omega
              have p3 : 0 < Y1.length := by omega
              clear hx1l hx2l hy1l hy2l
              have C0 := Lib.hid (K0.out p2 p3)
              clear K0
              go_wp2_with fail
              refine C0.out.mono ?_
              rintro ee w2 ⟨rfl, S⟩
              have HS := Lib.hid S
              clear S C0
              have hs1 := HU.out.2.2.2.2.1
              rw [List.nil_append, up_app_nil HU.out.2.2.1] at hs1
              subst hs1
              clear K1
              have HS := Lib.hid (show Sep w0 w2 (L.set jj (oEt (.slice (some ⟨g, 0, none⟩) n cap) ((P ++ Y1) ++ (X2 ++ ([] ++ Q))))) from by simpa using HS.out)
              have hs2 := HU.out.2.2.2.2.2.1
              rw [List.append_nil, up_app_nil HU.out.2.1] at hs2
              subst hs2
              clear K2
              go_wp2_with fail
              go_end0
              exact ⟨rfl, by simpa using HS.out⟩
        · skip
          by_cases h3 : a < s
          · skip
            by_cases h4 : e < b
            · have f1 :  (s : Int) < (m : Int) := by omega
              have f2 : ¬ (m : Int) < (e : Int) := by omega
              have f3 :  (a : Int) < (s : Int) := by omega
              have f4 : ¬ (s : Int) < (d : Int) := by omega
              have f5 :  (d : Int) < (e : Int) := by omega
              have f6 :  (e : Int) < (b : Int) := by omega
              have hx1l := HU.out.2.2.2.2.2.2.1
              have hx2l := HU.out.2.2.2.2.2.2.2.1
              have hy1l := HU.out.2.2.2.2.2.2.2.2.1
              have hy2l := HU.out.2.2.2.2.2.2.2.2.2.1
              obtain rfl : Y1 = [] := List.length_eq_zero_iff.1 (by omega)
              have p2 : 0 < X2.length := by omega
              have p1 : 0 < X1.length := by omega
              have p4 : 0 < Y2.length := by omega
              clear hx1l hx2l hy1l hy2l
              have HS := Lib.hid HU.out.2.2.2.2.2.2.2.2.2.2.1
              clear K0
              have HS := Lib.hid (show Sep w0 wr (L.set jj (oEt (.slice (some ⟨g, 0, none⟩) n cap) (P ++ (X1 ++ ([] ++ (X2 ++ (Y2 ++ Q)))))) ) from by simpa using HS.out)
              have hs1 := HU.out.2.2.2.2.1
              rw [List.append_nil, up_app_nil HU.out.1] at hs1
              subst hs1
              clear K1
              have HS := Lib.hid (show Sep w0 wr (L.set jj (oEt (.slice (some ⟨g, 0, none⟩) n cap) ((P ++ X1) ++ (X2 ++ (Y2 ++ Q))))) from by simpa using HS.out)
              have C2 := Lib.hid (K2.out _ HS.out p2 p4)
              clear K2 HS
              go_wp2_with fail
              refine C2.out.mono ?_
              rintro ee w4 ⟨rfl, S⟩
              have HS := Lib.hid S
              clear S C2
              go_wp2_with fail
              go_end0
              exact ⟨rfl, by simpa using HS.out⟩
            · have f1 :  (s : Int) < (m : Int) := by omega
              have f2 : ¬ (m : Int) < (e : Int) := by omega
              have f3 :  (a : Int) < (s : Int) := by omega
              have f4 : ¬ (s : Int) < (d : Int) := by omega
              have f5 :  (d : Int) < (e : Int) := by omega
              have f6 : ¬ (e : Int) < (b : Int) := by omega
              have hx1l := HU.out.2.2.2.2.2.2.1
              have hx2l := HU.out.2.2.2.2.2.2.2.1
              have hy1l := HU.out.2.2.2.2.2.2.2.2.1
              have hy2l := HU.out.2.2.2.2.2.2.2.2.2.1
              obtain rfl : Y1 = [] := List.length_eq_zero_iff.1 (by omega)
              obtain rfl : Y2 = [] := List.length_eq_zero_iff.1 (by omega)
              have p2 : 0 < X2.length := by omega
              have p1 : 0 < X1.length := by omega
              clear hx1l hx2l hy1l hy2l
              have HS := Lib.hid HU.out.2.2.2.2.2.2.2.2.2.2.1
              clear K0
              have HS := Lib.hid (show Sep w0 wr (L.set jj (oEt (.slice (some ⟨g, 0, none⟩) n cap) (P ++ (X1 ++ ([] ++ (X2 ++ ([] ++ Q)))))) ) from by simpa using HS.out)
              have hs1 := HU.out.2.2.2.2.1
              rw [List.append_nil, up_app_nil HU.out.1] at hs1
              subst hs1
              clear K1
              have HS := Lib.hid (show Sep w0 wr (L.set jj (oEt (.slice (some ⟨g, 0, none⟩) n cap) ((P ++ X1) ++ (X2 ++ ([] ++ Q))))) from by simpa using HS.out)
              have hs2 := HU.out.2.2.2.2.2.1
              rw [List.append_nil, up_app_nil HU.out.2.1] at hs2
              subst hs2
              clear K2
              go_wp2_with fail
              go_end0
              exact ⟨rfl, by simpa using HS.out⟩
          · skip
            by_cases h4 : e < b
            · have f1 :  (s : Int) < (m : Int) := by omega
              have f2 : ¬ (m : Int) < (e : Int) := by omega
              have f3 : ¬ (a : Int) < (s : Int) := by omega
              have f4 : ¬ (s : Int) < (d : Int) := by omega
              have f5 :  (d : Int) < (e : Int) := by omega
              have f6 :  (e : Int) < (b : Int) := by omega
              have hx1l := HU.out.2.2.2.2.2.2.1
              have hx2l := HU.out.2.2.2.2.2.2.2.1
              have hy1l := HU.out.2.2.2.2.2.2.2.2.1
              have hy2l := HU.out.2.2.2.2.2.2.2.2.2.1
              obtain rfl : Y1 = [] := List.length_eq_zero_iff.1 (by omega)
              obtain rfl : X1 = [] := List.length_eq_zero_iff.1 (by omega)
              have p2 : 0 < X2.length := by omega
              have p4 : 0 < Y2.length := by omega
              clear hx1l hx2l hy1l hy2l
              have HS := Lib.hid HU.out.2.2.2.2.2.2.2.2.2.2.1
              clear K0
              have HS := Lib.hid (show Sep w0 wr (L.set jj (oEt (.slice (some ⟨g, 0, none⟩) n cap) (P ++ ([] ++ ([] ++ (X2 ++ (Y2 ++ Q)))))) ) from by simpa using HS.out)
              have hs1 := HU.out.2.2.2.2.1
              have hs1 : [] = S1 := hs1
              subst hs1
              clear K1
              have HS := Lib.hid (show Sep w0 wr (L.set jj (oEt (.slice (some ⟨g, 0, none⟩) n cap) ((P ++ []) ++ (X2 ++ (Y2 ++ Q))))) from by simpa using HS.out)
              have C2 := Lib.hid (K2.out _ HS.out p2 p4)
              clear K2 HS
              go_wp2_with fail
              refine C2.out.mono ?_
              rintro ee w4 ⟨rfl, S⟩
              have HS := Lib.hid S
              clear S C2
              go_wp2_with fail
              go_end0
              exact ⟨rfl, by simpa using HS.out⟩
            · have f1 :  (s : Int) < (m : Int) := by omega
              have f2 : ¬ (m : Int) < (e : Int) := by omega
              have f3 : ¬ (a : Int) < (s : Int) := by omega
              have f4 : ¬ (s : Int) < (d : Int) := by omega
              have f5 :  (d : Int) < (e : Int) := by omega
              have f6 : ¬ (e : Int) < (b : Int) := by omega
              have hx1l := HU.out.2.2.2.2.2.2.1
              have hx2l := HU.out.2.2.2.2.2.2.2.1
              have hy1l := HU.out.2.2.2.2.2.2.2.2.1
              have hy2l := HU.out.2.2.2.2.2.2.2.2.2.1
              obtain rfl : Y1 = [] := List.length_eq_zero_iff.1 (by omega)
              obtain rfl : X1 = [] := List.length_eq_zero_iff.1 (by omega)
              obtain rfl : Y2 = [] := List.length_eq_zero_iff.1 (by omega)
              have p2 : 0 < X2.length := by omega
              clear hx1l hx2l hy1l hy2l
              have HS := Lib.hid HU.out.2.2.2.2.2.2.2.2.2.2.1
              clear K0
              have HS := Lib.hid (show Sep w0 wr (L.set jj (oEt (.slice (some ⟨g, 0, none⟩) n cap) (P ++ ([] ++ ([] ++ (X2 ++ ([] ++ Q)))))) ) from by simpa using HS.out)
              have hs1 := HU.out.2.2.2.2.1
              have hs1 : [] = S1 := hs1
              subst hs1
              clear K1
              have HS := Lib.hid (show Sep w0 wr (L.set jj (oEt (.slice (some ⟨g, 0, none⟩) n cap) ((P ++ []) ++ (X2 ++ ([] ++ Q))))) from by simpa using HS.out)
              have hs2 := HU.out.2.2.2.2.2.1
              rw [List.append_nil, up_app_nil HU.out.2.1] at hs2
              subst hs2
              clear K2
              go_wp2_with fail
              go_end0
              exact ⟨rfl, by simpa using HS.out⟩
      · skip
        by_cases h2 : s < d
        · skip
          by_cases h3 : a < s
          · skip
            by_cases h4 : e < b
            · have f1 : ¬ (s : Int) < (m : Int) := by omega
              have f2 :  (m : Int) < (e : Int) := by omega
              have f3 :  (a : Int) < (s : Int) := by omega
              have f4 :  (s : Int) < (d : Int) := by omega
              have f5 : ¬ (d : Int) < (e : Int) := by omega
              have f6 :  (e : Int) < (b : Int) := by omega
              have hx1l := HU.out.2.2.2.2.2.2.1
              have hx2l := HU.out.2.2.2.2.2.2.2.1
              have hy1l := HU.out.2.2.2.2.2.2.2.2.1
              have hy2l := HU.out.2.2.2.2.2.2.2.2.2.1
              obtain rfl : X2 = [] := List.length_eq_zero_iff.1 (by omega)
              have p3 : 0 < Y1.length := by omega
              have p1 : 0 < X1.length := by omega
              have p4 : 0 < Y2.length := by omega
              clear hx1l hx2l hy1l hy2l
              have HS := Lib.hid HU.out.2.2.2.2.2.2.2.2.2.2.1
              clear K0
              have HS := Lib.hid (show Sep w0 wr (L.set jj (oEt (.slice (some ⟨g, 0, none⟩) n cap) (P ++ (X1 ++ (Y1 ++ ([] ++ (Y2 ++ Q)))))) ) from by simpa using HS.out)
              have C1 := Lib.hid (K1.out _ HS.out p1 p3)
              clear K1 HS
              go_wp2_with fail
              refine C1.out.mono ?_
              rintro ee w3 ⟨rfl, S⟩
              have HS := Lib.hid S
              clear S C1
              have hs2 := HU.out.2.2.2.2.2.1
              rw [List.nil_append, up_app_nil HU.out.2.2.2.1] at hs2
              subst hs2
              clear K2
              go_wp2_with fail
              go_end0
              exact ⟨rfl, by simpa using HS.out⟩
            · omega
          · skip
            by_cases h4 : e < b
            · have f1 : ¬ (s : Int) < (m : Int) := by omega
              have f2 :  (m : Int) < (e : Int) := by omega
              have f3 : ¬ (a : Int) < (s : Int) := by omega
              have f4 :  (s : Int) < (d : Int) := by omega
              have f5 : ¬ (d : Int) < (e : Int) := by omega
              have f6 :  (e : Int) < (b : Int) := by omega
              have hx1l := HU.out.2.2.2.2.2.2.1
              have hx2l := HU.out.2.2.2.2.2.2.2.1
              have hy1l := HU.out.2.2.2.2.2.2.2.2.1
              have hy2l := HU.out.2.2.2.2.2.2.2.2.2.1
              obtain rfl : X2 = [] := List.length_eq_zero_iff.1 (by omega)
              obtain rfl : X1 = [] := List.length_eq_zero_iff.1 (by omega)
              have p3 : 0 < Y1.length := by omega
              have p4 : 0 < Y2.length := by omega
              clear hx1l hx2l hy1l hy2l
              have HS := Lib.hid HU.out.2.2.2.2.2.2.2.2.2.2.1
              clear K0
              have HS := Lib.hid (show Sep w0 wr (L.set jj (oEt (.slice (some ⟨g, 0, none⟩) n cap) (P ++ ([] ++ (Y1 ++ ([] ++ (Y2 ++ Q)))))) ) from by simpa using HS.out)
              have hs1 := HU.out.2.2.2.2.1
              rw [List.nil_append, up_app_nil HU.out.2.2.1] at hs1
              subst hs1
              clear K1
              have HS := Lib.hid (show Sep w0 wr (L.set jj (oEt (.slice (some ⟨g, 0, none⟩) n cap) ((P ++ Y1) ++ ([] ++ (Y2 ++ Q))))) from by simpa using HS.out)
              have hs2 := HU.out.2.2.2.2.2.1
              rw [List.nil_append, up_app_nil HU.out.2.2.2.1] at hs2
              subst hs2
              clear K2
              go_wp2_with fail
              go_end0
              exact ⟨rfl, by simpa using HS.out⟩
            · omega
        · skip
          by_cases h3 : a < s
          · skip
            by_cases h4 : e < b
            · have f1 : ¬ (s : Int) < (m : Int) := by omega
              have f2 : ¬ (m : Int) < (e : Int) := by omega
              have f3 :  (a : Int) < (s : Int) := by omega
              have f4 : ¬ (s : Int) < (d : Int) := by omega
              have f5 : ¬ (d : Int) < (e : Int) := by omega
              have f6 :  (e : Int) < (b : Int) := by omega
              have hx1l := HU.out.2.2.2.2.2.2.1
              have hx2l := HU.out.2.2.2.2.2.2.2.1
              have hy1l := HU.out.2.2.2.2.2.2.2.2.1
              have hy2l := HU.out.2.2.2.2.2.2.2.2.2.1
              obtain rfl : X2 = [] := List.length_eq_zero_iff.1 (by omega)
              obtain rfl : Y1 = [] := List.length_eq_zero_iff.1 (by omega)
              have p1 : 0 < X1.length := by omega
              have p4 : 0 < Y2.length := by omega
              clear hx1l hx2l hy1l hy2l
              have HS := Lib.hid HU.out.2.2.2.2.2.2.2.2.2.2.1
              clear K0
              have HS := Lib.hid (show Sep w0 wr (L.set jj (oEt (.slice (some ⟨g, 0, none⟩) n cap) (P ++ (X1 ++ ([] ++ ([] ++ (Y2 ++ Q)))))) ) from by simpa using HS.out)
              have hs1 := HU.out.2.2.2.2.1
              rw [List.append_nil, up_app_nil HU.out.1] at hs1
              subst hs1
              clear K1
              have HS := Lib.hid (show Sep w0 wr (L.set jj (oEt (.slice (some ⟨g, 0, none⟩) n cap) ((P ++ X1) ++ ([] ++ (Y2 ++ Q))))) from by simpa using HS.out)
              have hs2 := HU.out.2.2.2.2.2.1
              rw [List.nil_append, up_app_nil HU.out.2.2.2.1] at hs2
              subst hs2
              clear K2
              go_wp2_with fail
              go_end0
              exact ⟨rfl, by simpa using HS.out⟩
            · omega
          · skip
            by_cases h4 : e < b
            · have f1 : ¬ (s : Int) < (m : Int) := by omega
              have f2 : ¬ (m : Int) < (e : Int) := by omega
              have f3 : ¬ (a : Int) < (s : Int) := by omega
              have f4 : ¬ (s : Int) < (d : Int) := by omega
              have f5 : ¬ (d : Int) < (e : Int) := by omega
              have f6 :  (e : Int) < (b : Int) := by omega
              have hx1l := HU.out.2.2.2.2.2.2.1
              have hx2l := HU.out.2.2.2.2.2.2.2.1
              have hy1l := HU.out.2.2.2.2.2.2.2.2.1
              have hy2l := HU.out.2.2.2.2.2.2.2.2.2.1
              obtain rfl : X2 = [] := List.length_eq_zero_iff.1 (by omega)
              obtain rfl : Y1 = [] := List.length_eq_zero_iff.1 (by omega)
              obtain rfl : X1 = [] := List.length_eq_zero_iff.1 (by omega)
              have p4 : 0 < Y2.length := by omega
              clear hx1l hx2l hy1l hy2l
              have HS := Lib.hid HU.out.2.2.2.2.2.2.2.2.2.2.1
              clear K0
              have HS := Lib.hid (show Sep w0 wr (L.set jj (oEt (.slice (some ⟨g, 0, none⟩) n cap) (P ++ ([] ++ ([] ++ ([] ++ (Y2 ++ Q)))))) ) from by simpa using HS.out)
              have hs1 := HU.out.2.2.2.2.1
              have hs1 : [] = S1 := hs1
              subst hs1
              clear K1
              have HS := Lib.hid (show Sep w0 wr (L.set jj (oEt (.slice (some ⟨g, 0, none⟩) n cap) ((P ++ []) ++ ([] ++ (Y2 ++ Q))))) from by simpa using HS.out)
              have hs2 := HU.out.2.2.2.2.2.1
              rw [List.nil_append, up_app_nil HU.out.2.2.2.1] at hs2
              subst hs2
              clear K2
              go_wp2_with fail
              go_end0
              exact ⟨rfl, by simpa using HS.out⟩
            · omega
end Go.Proofs.YtkjcjklnclahdaaGreatDoor.Tr
