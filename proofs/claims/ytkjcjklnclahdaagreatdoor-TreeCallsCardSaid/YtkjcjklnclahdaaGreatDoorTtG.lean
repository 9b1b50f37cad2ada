/-
  tree: swapRangeCmpFunc, rotateCmpFunc of entries walked.
-/
import Derived.Test.YtkjcjklnclahdaaGreatDoorTtA
namespace Go.Proofs.YtkjcjklnclahdaaGreatDoor.Tr
open Go.RowKit

theorem set2 : ∀ (A T : List Value) (a b a' b' : Value), ((A ++ a :: b :: T).set A.length a').set (A.length + 1) b' = A ++ a' :: b' :: T
  | [], _, _, _, _, _ => rfl
  | z :: A, T, a, b, a', b' => by
    have := set2 A T a b a' b'
    rw [List.cons_append, List.length_cons, List.set_cons_succ, List.set_cons_succ, this]
    rfl
theorem et_put {w : World} {g n cap : Nat} {P Q : List Et} {x y : Et} (h : w.ownsRow 0 62 2 (.slice (some ⟨g, 0, none⟩) n cap) n (etC (P ++ x :: Q))) (m : Nat) (hm : P.length = m) :
    ((w.setCell ⟨g, m * 2, none⟩ (.string y.1)).setCell ⟨g, m * 2 + 1, none⟩ (.slice y.2.1 y.2.2.1 y.2.2.2)).ownsRow 0 62 2 (.slice (some ⟨g, 0, none⟩) n cap) n (etC (P ++ y :: Q)) := by
  subst hm
  have h2 := row_put (row_put (i := P.length * 2) h (.string y.1)) (i := P.length * 2 + 1) (.slice y.2.1 y.2.2.1 y.2.2.2)
  rw [etC_append, etC_cons, ← etC_len P, set2] at h2
  rw [etC_append, etC_cons, ← etC_len P]
  exact h2
theorem app3 (P Y M X Q : List Et) : P ++ (Y ++ (M ++ (X ++ Q))) = (P ++ Y ++ M) ++ (X ++ Q) := by simp
set_option maxRecDepth 100000 in
set_option maxHeartbeats 2000000 in
theorem swapR_walk (w0 w : World) (L : List Ob) (jj : Nat) (v : Value) (P X M Y Q : List Et) (S : Sep w0 w L) (hj : L[jj]? = some (oEt v (P ++ (X ++ (M ++ (Y ++ Q)))))) (hl : (P ++ (X ++ (M ++ (Y ++ Q)))).length ≤ 1000) (a b k : Nat) (ha : P.length = a) (hX : X.length = k) (hb : a + k + M.length = b) (hY : Y.length = k) :
    Calls Tryz.prog 106 #[v, .int .i64 a, .int .i64 b, .int .i64 k, .func (.func 66) #[] #[]] w fun e w' => e = .returned (.tuple #[]) ∧ Sep w0 w' (L.set jj (oEt v (P ++ (Y ++ (M ++ (X ++ Q)))))) := by
  obtain ⟨n, hn⟩ : ∃ n, (P ++ (X ++ (M ++ (Y ++ Q)))).length = n := ⟨_, rfl⟩
  have hown : w.ownsRow 0 62 2 v (P ++ (X ++ (M ++ (Y ++ Q)))).length (etC (P ++ (X ++ (M ++ (Y ++ Q))))) := S.get jj hj
  obtain ⟨ao, cap, rfl⟩ := row_slice hown
  have hjl : jj < L.length := (List.getElem?_eq_some_iff.1 hj).1
  have hbn : b + k ≤ n := by rw [← hn]; simp only [List.length_append]; omega
  have hL9 : L.set jj (oEt (.slice ao n cap) (P ++ (X ++ (M ++ (Y ++ Q))))) = L := by rw [← hn]; exact set_self hj
  have HH := Lib.hid (⟨S, hn, ha, hX, hb, hY, hL9⟩ : _ ∧ _ ∧ _ ∧ _ ∧ _ ∧ _ ∧ _)
  rw [hn] at hl ⊢
  clear S hj hown hn hL9
  go_enter Tryz.func106, Tryz.ntmps106
  go_wp2_with fail
  go_loopg [10] k (fun gg iv wr => ∃ (i : Nat) (X1 X2 Y1 Y2 : List Et), gg + i = k ∧ iv = .int .i64 i ∧ X = X1 ++ X2 ∧ Y = Y1 ++ Y2 ∧ X1.length = i ∧ Y1.length = i ∧ Sep w0 wr (L.set jj (oEt (.slice ao n cap) (P ++ ((Y1 ++ X2) ++ (M ++ ((X1 ++ Y2) ++ Q)))))))
  case atStart =>
    refine ⟨0, [], X, [], Y, by omega, rfl, rfl, rfl, rfl, rfl, ?_⟩
    rw [List.nil_append, List.nil_append, HH.out.2.2.2.2.2.2]
    exact HH.out.1
  case round =>
    obtain ⟨i, X1, X2, Y1, Y2, hgi, rfl, hX2, hY2, hX1, hY1, S⟩ := hrel
    have hXl : X1.length + X2.length = k := by rw [← List.length_append, ← hX2]; exact HH.out.2.2.2.1
    have hYl : Y1.length + Y2.length = k := by rw [← List.length_append, ← hY2]; exact HH.out.2.2.2.2.2.1
    by_cases hlt : i < k
    · obtain ⟨gg, rfl⟩ : ∃ gg, gk = gg + 1 := ⟨gk - 1, by omega⟩
      have hltz : (i : Int) < (k : Int) := by omega
      obtain _ | ⟨x, X2⟩ := X2
      · rw [List.length_nil] at hXl; omega
      obtain _ | ⟨y, Y2⟩ := Y2
      · rw [List.length_nil] at hYl; omega
      have hlen : (P ++ ((Y1 ++ x :: X2) ++ (M ++ ((X1 ++ y :: Y2) ++ Q)))).length = n := by
        have h1 := HH.out.2.1
        rw [hX2, hY2] at h1
        simp only [List.length_append, List.length_cons] at h1 ⊢
        omega
      have hown : wr.ownsRow 0 62 2 (.slice ao n cap) n (etC (P ++ ((Y1 ++ x :: X2) ++ (M ++ ((X1 ++ y :: Y2) ++ Q))))) := by
        have h1 : wr.ownsRow 0 62 2 (.slice ao n cap) (P ++ ((Y1 ++ x :: X2) ++ (M ++ ((X1 ++ y :: Y2) ++ Q)))).length (etC (P ++ ((Y1 ++ x :: X2) ++ (M ++ ((X1 ++ y :: Y2) ++ Q))))) := S.get jj (List.getElem?_set_self hjl)
        rw [hlen] at h1
        exact h1
      obtain ⟨g, c2, he⟩ := row_form hown (by omega)
      cases he
      have e1 : P ++ ((Y1 ++ x :: X2) ++ (M ++ ((X1 ++ y :: Y2) ++ Q))) = (P ++ Y1) ++ x :: (X2 ++ (M ++ ((X1 ++ y :: Y2) ++ Q))) := by simp
      have e2 : P ++ ((Y1 ++ x :: X2) ++ (M ++ ((X1 ++ y :: Y2) ++ Q))) = (P ++ (Y1 ++ x :: X2) ++ M ++ X1) ++ y :: (Y2 ++ Q) := by simp
      have l1 : (P ++ Y1).length = a + i := by rw [List.length_append, HH.out.2.2.1, hY1]
      have l2 : (P ++ (Y1 ++ x :: X2) ++ M ++ X1).length = b + i := by
        simp only [List.length_append, List.length_cons] at hXl ⊢
        have := HH.out.2.2.1
        have := HH.out.2.2.2.2.1
        omega
      obtain ⟨x1, x2, x3, x4⟩ := et_cells (e1 ▸ hown) (a + i) l1
      obtain ⟨y1, y2, y3, y4⟩ := et_cells (e2 ▸ hown) (b + i) l2
      have hq1 := et_put (y := y) (e1 ▸ hown) (a + i) l1
      have e3 : (P ++ Y1) ++ y :: (X2 ++ (M ++ ((X1 ++ y :: Y2) ++ Q))) = (P ++ (Y1 ++ y :: X2) ++ M ++ X1) ++ y :: (Y2 ++ Q) := by simp
      have l3 : (P ++ (Y1 ++ y :: X2) ++ M ++ X1).length = b + i := by rw [← l2]; simp
      have hq2 := et_put (y := x) (e3 ▸ hq1) (b + i) l3
      have e4 : (P ++ (Y1 ++ y :: X2) ++ M ++ X1) ++ x :: (Y2 ++ Q) = P ++ (((Y1 ++ [y]) ++ X2) ++ (M ++ (((X1 ++ [x]) ++ Y2) ++ Q))) := by simp
      have hlen2 : (P ++ (((Y1 ++ [y]) ++ X2) ++ (M ++ (((X1 ++ [x]) ++ Y2) ++ Q)))).length = n := by
        rw [← hlen]
        simp only [List.length_append, List.length_cons, List.length_nil]
        omega
      have S2 := S.upd jj (oEt (.slice (some ⟨g, 0, none⟩) n cap) (P ++ (((Y1 ++ [y]) ++ X2) ++ (M ++ (((X1 ++ [x]) ++ Y2) ++ Q))))) (List.getElem?_set_self hjl) (((((Ext.refl _ wr).setCell ⟨g, (a + i) * 2, none⟩ (.string y.1) (.inl (by simp [oEt, oSl, Value.ownBlock]))).setCell ⟨g, (a + i) * 2 + 1, none⟩ (.slice y.2.1 y.2.2.1 y.2.2.2) (.inl (by simp [oEt, oSl, Value.ownBlock]))).setCell ⟨g, (b + i) * 2, none⟩ (.string x.1) (.inl (by simp [oEt, oSl, Value.ownBlock]))).setCell ⟨g, (b + i) * 2 + 1, none⟩ (.slice x.2.1 x.2.2.1 x.2.2.2) (.inl (by simp [oEt, oSl, Value.ownBlock]))) (Fr.refl _ _) (by
        show World.ownsRow _ 0 62 2 _ (P ++ (((Y1 ++ [y]) ++ X2) ++ (M ++ (((X1 ++ [x]) ++ Y2) ++ Q)))).length _
        rw [hlen2, ← e4]
        exact hq2)
      rw [List.set_set] at S2
      have HS := Lib.hid (⟨S2, hX2, hY2, hX1, hY1⟩ : _ ∧ _ ∧ _ ∧ _ ∧ _)
      have hne : ¬ (b + i) * 2 = (a + i) * 2 := by omega
      have hai : (a : Int) + (i : Int) < (n : Int) := by omega
      have hbi : (b : Int) + (i : Int) < (n : Int) := by omega
      clear S S2 hX2 hY2 hX1 hY1 hown e1 e2 e3 e4 l1 l2 l3 hq1 hq2 hlen hlen2 hXl hYl
      go_upto_region 3 with (fail)
      go_region
      go_wp2_with fail
      go_roundg gg
      case measure => omega
      case rel =>
        exact ⟨i + 1, X1 ++ [x], X2, Y1 ++ [y], Y2, by omega, by go_num, by rw [HS.out.2.1]; simp, by rw [HS.out.2.2.1]; simp, by rw [List.length_append, HS.out.2.2.2.1]; rfl, by rw [List.length_append, HS.out.2.2.2.2]; rfl, HS.out.1.quiet ((Ext.refl _ _).drew)⟩
    · obtain rfl : gk = 0 := by omega
      obtain rfl : X2 = [] := List.length_eq_zero_iff.1 (by omega)
      obtain rfl : Y2 = [] := List.length_eq_zero_iff.1 (by omega)
      rw [List.append_nil] at hX2 hY2
      rw [List.append_nil, List.append_nil, ← hX2, ← hY2] at S
      have HS := Lib.hid S
      clear S hX2 hY2 hX1 hY1 hXl hYl
      go_wp2_with fail
      go_end0
      exact ⟨rfl, HS.out⟩
set_option maxRecDepth 100000 in
set_option maxHeartbeats 2000000 in
theorem rot_walk (w0 w : World) (L : List Ob) (jj : Nat) (v : Value) (P X Y Q : List Et) (S : Sep w0 w L) (hj : L[jj]? = some (oEt v (P ++ (X ++ (Y ++ Q))))) (hl : (P ++ (X ++ (Y ++ Q))).length ≤ 1000) (a m b : Nat) (ha : P.length = a) (hm : a + X.length = m) (hb : m + Y.length = b) (hX0 : 0 < X.length) (hY0 : 0 < Y.length) :
    Calls Tryz.prog 100 #[v, .int .i64 a, .int .i64 m, .int .i64 b, .func (.func 66) #[] #[]] w fun e w' => e = .returned (.tuple #[]) ∧ Sep w0 w' (L.set jj (oEt v (P ++ (Y ++ (X ++ Q))))) := by
  obtain ⟨n, hn⟩ : ∃ n, (P ++ (X ++ (Y ++ Q))).length = n := ⟨_, rfl⟩
  obtain ⟨F, hF⟩ : ∃ F, P ++ (Y ++ (X ++ Q)) = F := ⟨_, rfl⟩
  have hown : w.ownsRow 0 62 2 v (P ++ (X ++ (Y ++ Q))).length (etC (P ++ (X ++ (Y ++ Q)))) := S.get jj hj
  obtain ⟨ao, cap, rfl⟩ := row_slice hown
  have hjl : jj < L.length := (List.getElem?_eq_some_iff.1 hj).1
  have hbn : b ≤ n := by rw [← hn]; simp only [List.length_append]; omega
  have hL9 : L.set jj (oEt (.slice ao n cap) (P ++ (X ++ (Y ++ Q)))) = L := by rw [← hn]; exact set_self hj
  obtain ⟨i0, hi0⟩ : ∃ i0, X.length = i0 := ⟨_, rfl⟩
  obtain ⟨j0, hj0⟩ : ∃ j0, Y.length = j0 := ⟨_, rfl⟩
  have HH := Lib.hid (⟨S, hn, ha, hi0, hj0, hL9, hF⟩ : _ ∧ _ ∧ _ ∧ _ ∧ _ ∧ _ ∧ _)
  rw [hn] at hl ⊢
  rw [hF]
  rw [hi0] at hm hX0
  rw [hj0] at hb hY0
  have hmi : (m : Int) - (a : Int) = (i0 : Int) := by omega
  have hbj : (b : Int) - (m : Int) = (j0 : Int) := by omega
  clear S hj hown hn hL9 hF hi0 hj0
  go_enter Tryz.func100, Tryz.ntmps100
  go_wp2_with fail
  clear hmi hbj
  go_loopg [10, 11] (i0 + j0) (fun gg iv jv wr => ∃ (i j : Nat) (P' X' Y' Q' : List Et), gg = i + j ∧ iv = .int .i64 i ∧ jv = .int .i64 j ∧ 0 < i ∧ 0 < j ∧ X'.length = i ∧ Y'.length = j ∧ P'.length + i = m ∧ P' ++ (Y' ++ (X' ++ Q')) = F ∧ (P' ++ (X' ++ (Y' ++ Q'))).length = n ∧ Sep w0 wr (L.set jj (oEt (.slice ao n cap) (P' ++ (X' ++ (Y' ++ Q'))))))
  case atStart =>
    refine ⟨i0, j0, P, X, Y, Q, rfl, rfl, rfl, hX0, hY0, HH.out.2.2.2.1, HH.out.2.2.2.2.1, by rw [HH.out.2.2.1]; exact hm, HH.out.2.2.2.2.2.2, HH.out.2.1, ?_⟩
    rw [HH.out.2.2.2.2.2.1]
    exact HH.out.1
  case round =>
    obtain ⟨i, j, P', X', Y', Q', rfl, rfl, rfl, hi, hj, hX, hY, hP, hF, hlen, S⟩ := hrel
    obtain ⟨p, hp⟩ : ∃ p, P'.length = p := ⟨_, rfl⟩
    rw [hp] at hP
    have hmi : (m : Int) - (i : Int) = (p : Int) := by omega
    have hset := List.getElem?_set_self (a := oEt (Value.slice ao n cap) (P' ++ (X' ++ (Y' ++ Q')))) hjl
    have hmn : m + j ≤ n := by rw [← hlen]; simp only [List.length_append]; omega
    by_cases hij : i = j
    · subst hij
      have hb : ((i : Int) != (i : Int)) = false := bne_self_eq_false _
      have HW := Lib.hid (swapR_walk w0 wr _ jj (.slice ao n cap) P' X' [] Y' Q' S hset (by rw [List.nil_append, hlen]; exact hl) p m i hp hX (by simpa using hP) hY)
      rw [List.nil_append, hF] at HW
      clear S hset hX hY hF hlen hp
      go_wp2_with fail
      refine HW.out.mono ?_
      rintro e w2 ⟨rfl, S⟩
      rw [List.set_set] at S
      have HS := Lib.hid S
      clear S HW
      go_wp2_with fail
      go_end0
      exact ⟨rfl, HS.out⟩
    · have hb : ((i : Int) != (j : Int)) = true := bne_iff_ne.2 (by omega)
      by_cases hgt : j < i
      · have hgtz : (j : Int) < (i : Int) := by omega
        obtain ⟨X1, X2, rfl, hX1⟩ : ∃ X1 X2, X' = X1 ++ X2 ∧ X1.length = j := ⟨X'.take j, X'.drop j, by rw [List.take_append_drop], by rw [List.length_take]; omega⟩
        obtain ⟨r, hr⟩ : ∃ r, X2.length = r := ⟨_, rfl⟩
        rw [List.length_append, hX1, hr] at hX
        have hassoc : P' ++ ((X1 ++ X2) ++ (Y' ++ Q')) = P' ++ (X1 ++ (X2 ++ (Y' ++ Q'))) := by simp
        rw [hassoc] at hset hlen S
        have HW := Lib.hid (swapR_walk w0 wr _ jj (.slice ao n cap) P' X1 X2 Y' Q' S hset (by rw [hlen]; exact hl) p m j hp hX1 (by omega) hY)
        have hir : (i : Int) - (j : Int) = (r : Int) := by omega
        have HX := Lib.hid (⟨hX1, hr, hY, hp, hF, hlen⟩ : _ ∧ _ ∧ _ ∧ _ ∧ _ ∧ _)
        clear S hset hX1 hY hF hlen hp hassoc hr
        go_wp2_with fail
        refine HW.out.mono ?_
        rintro e w2 ⟨rfl, S⟩
        rw [List.set_set] at S
        have HS := Lib.hid S
        clear S HW
        go_wp2_with fail
        go_roundg (r + j)
        case measure => omega
        case rel =>
          obtain ⟨hX1, hr, hY, hp, hF, hlen⟩ := HX.out
          have e1 : (P' ++ Y') ++ (X2 ++ (X1 ++ Q')) = P' ++ (Y' ++ (X2 ++ (X1 ++ Q'))) := by simp
          refine ⟨r, j, P' ++ Y', X2, X1, Q', rfl, rfl, rfl, by omega, hj, hr, hX1, by rw [List.length_append, hp, hY]; omega, by rw [← hF]; simp, ?_, by rw [e1]; exact HS.out⟩
          rw [← hlen]
          simp only [List.length_append]
          omega
      · have hgtz : ¬ (j : Int) < (i : Int) := by omega
        obtain ⟨Y1, Y2, rfl, hY2⟩ : ∃ Y1 Y2, Y' = Y1 ++ Y2 ∧ Y2.length = i := ⟨Y'.take (j - i), Y'.drop (j - i), by rw [List.take_append_drop], by rw [List.length_drop]; omega⟩
        obtain ⟨r, hr⟩ : ∃ r, Y1.length = r := ⟨_, rfl⟩
        rw [List.length_append, hY2, hr] at hY
        have hassoc : P' ++ (X' ++ ((Y1 ++ Y2) ++ Q')) = P' ++ (X' ++ (Y1 ++ (Y2 ++ Q'))) := by simp
        rw [hassoc] at hset hlen S
        obtain ⟨q, hq⟩ : ∃ q, p + i + Y1.length = q := ⟨_, rfl⟩
        have HW := Lib.hid (swapR_walk w0 wr _ jj (.slice ao n cap) P' X' Y1 Y2 Q' S hset (by rw [hlen]; exact hl) p q i hp hX hq hY2)
        have hqz : (m : Int) + (j : Int) - (i : Int) = (q : Int) := by omega
        have hir : (j : Int) - (i : Int) = (r : Int) := by omega
        have HX := Lib.hid (⟨hX, hr, hY2, hp, hF, hlen⟩ : _ ∧ _ ∧ _ ∧ _ ∧ _ ∧ _)
        clear S hset hX hY2 hF hlen hp hassoc hr hq
        go_wp2_with fail
        refine HW.out.mono ?_
        rintro e w2 ⟨rfl, S⟩
        rw [List.set_set] at S
        have HS := Lib.hid S
        clear S HW
        go_wp2_with fail
        go_roundg (i + r)
        case measure => omega
        case rel =>
          obtain ⟨hX, hr, hY2, hp, hF, hlen⟩ := HX.out
          refine ⟨i, r, P', Y2, Y1, X' ++ Q', rfl, rfl, rfl, hi, by omega, hY2, hr, by rw [hp]; exact hP, by rw [← hF]; simp, ?_, HS.out⟩
          rw [← hlen]
          simp only [List.length_append]
          omega
end Go.Proofs.YtkjcjklnclahdaaGreatDoor.Tr
