/-
  tree: insertionSortCmpFunc of a part of a row of entries walked.
-/
import Derived.Test.YtkjcjklnclahdaaGreatDoorPkV
namespace Go.Proofs.YtkjcjklnclahdaaGreatDoor.Tr
open Go.RowKit

set_option maxRecDepth 100000 in
set_option maxHeartbeats 8000000 in
theorem ins2_walk (w0 w : World) (L : List Ob) (jj : Nat) (v : Value) (Pre M Post : List Et) (S : Sep w0 w L) (hj : L[jj]? = some (oEt v (Pre ++ (M ++ Post)))) (hl : (Pre ++ (M ++ Post)).length ≤ 1000) (a b : Nat) (ha : Pre.length = a) (hb : a + M.length = b) :
    Calls Tryz.prog 88 #[v, .int .i64 a, .int .i64 b, .func (.func 66) #[] #[]] w fun e w' => e = .returned (.tuple #[]) ∧ Sep w0 w' (L.set jj (oEt v (Pre ++ (sortN M ++ Post)))) := by
  obtain ⟨n, hn⟩ : ∃ n, (Pre ++ (M ++ Post)).length = n := ⟨_, rfl⟩
  obtain ⟨R, hR⟩ : ∃ R, sortR [] M = R := ⟨_, rfl⟩
  have hRl : R.length = M.length := by rw [← hR, sortR_len]; simp
  have hown : w.ownsRow 0 62 2 v (Pre ++ (M ++ Post)).length (etC (Pre ++ (M ++ Post))) := S.get jj hj
  obtain ⟨ao, cap, rfl⟩ := row_slice hown
  have hjl : jj < L.length := (List.getElem?_eq_some_iff.1 hj).1
  have hbn : b ≤ n := by rw [← hn, List.length_append, List.length_append]; omega
  have HH := Lib.hid (⟨S, hj, hn, hR, hRl, ha, hb⟩ : _ ∧ _ ∧ _ ∧ _ ∧ _ ∧ _ ∧ _)
  rw [hn] at hl ⊢
  rw [show sortN M = R.reverse by rw [sortN, hR]]
  clear S hj hR hRl hown
  by_cases h0 : a = b
  · have hM : M = [] := List.length_eq_zero_iff.1 (by omega)
    subst h0
    clear ha hb hn
    have hf : ¬ (a : Int) + 1 < (a : Int) := by omega
    go_enter Tryz.func88, Tryz.ntmps88
    go_wp2_with fail
    go_loopg [8, 9] 0 (fun _ iv v9 wr => iv = .int .i64 ((a : Int) + 1) ∧ w = wr)
    case atStart => exact ⟨rfl, rfl⟩
    case round =>
    obtain ⟨rfl, rfl⟩ := hrel
    go_wp2_with fail
    go_end0
    refine ⟨rfl, ?_⟩
    have hr : R = [] := List.length_eq_zero_iff.1 (by rw [HH.out.2.2.2.2.1, hM]; rfl)
    have h1 := HH.out.2.1
    rw [HH.out.2.2.1] at h1
    rw [hr]
    subst hM
    show Sep w0 w (L.set jj (oEt (.slice ao n cap) (Pre ++ ([] ++ Post))))
    rw [show L.set jj (oEt (Value.slice ao n cap) (Pre ++ ([] ++ Post))) = L from by obtain ⟨q, q2⟩ := List.getElem?_eq_some_iff.1 h1; rw [← q2]; exact List.set_getElem_self q]
    exact HH.out.1
  obtain ⟨g, cap, he⟩ := row_form (HH.out.1.get jj HH.out.2.1 : w.ownsRow 0 62 2 (.slice ao (Pre ++ (M ++ Post)).length cap) (Pre ++ (M ++ Post)).length (etC (Pre ++ (M ++ Post)))) (by rw [HH.out.2.2.1]; omega)
  cases he
  obtain _ | ⟨x0, M⟩ := M
  · exact absurd (by simpa using hb) h0
  have hab : a < b := by rw [List.length_cons] at hb; omega
  clear ha hb hn h0
  have haz : (a : Int) < (b : Int) := by omega
  go_enter Tryz.func88, Tryz.ntmps88
  go_wp2_with fail
  go_loopg [8, 9] (b - a) (fun gg iv v9 wr => ∃ (i : Nat) (A rest : List Et), gg + i = b + 1 ∧ iv = .int .i64 i ∧ a + A.length = i ∧ a + 1 ≤ i ∧ i + rest.length = b ∧ sortR A rest = R ∧ (Pre ++ (A.reverse ++ (rest ++ Post))).length = n ∧ Sep w0 wr (L.set jj (oEt (.slice (some ⟨g, 0, none⟩) n cap) (Pre ++ (A.reverse ++ (rest ++ Post))))))
  case atStart =>
    have hb9 := HH.out.2.2.2.2.2.2
    rw [List.length_cons] at hb9
    refine ⟨a + 1, [x0], M, by omega, by go_num, rfl, by omega, by omega, HH.out.2.2.2.1, HH.out.2.2.1, ?_⟩
    rw [show Pre ++ ([x0].reverse ++ (M ++ Post)) = Pre ++ (x0 :: M ++ Post) from rfl, ← HH.out.2.2.1, set_self HH.out.2.1]
    exact HH.out.1
  case round =>
    obtain ⟨i, A, rest, hgi, rfl, hA, h1, hib, hR, hlen, S⟩ := hrel
    by_cases hlt : i < b
    · obtain ⟨gg, rfl⟩ : ∃ gg, gk = gg + 1 := ⟨gk - 1, by omega⟩
      have hltz : (i : Int) < (b : Int) := by omega
      obtain _ | ⟨x, rest⟩ := rest
      · rw [List.length_nil] at hib; omega
      rw [List.length_cons] at hib
      rw [sortR] at hR
      obtain ⟨B, hB⟩ : ∃ B, insR x A = B := ⟨_, rfl⟩
      rw [hB] at hR
      have HS := Lib.hid (⟨S, hR, hlen, hA, hB, hib⟩ : _ ∧ _ ∧ _ ∧ _ ∧ _ ∧ _)
      clear S hR hlen hA hB hib
      go_wp2_with fail
      go_loopg [9] (i - a) (fun g2 jv wx => ∃ (A1 Q : List Et), g2 = A1.length ∧ jv = .int .i64 ((a + A1.length : Nat) : Int) ∧ a + A1.length ≤ i ∧ Q.reverse ++ insR x A1 = B ∧ (Pre ++ (A1.reverse ++ x :: (Q ++ (rest ++ Post)))).length = n ∧ Sep w0 wx (L.set jj (oEt (.slice (some ⟨g, 0, none⟩) n cap) (Pre ++ (A1.reverse ++ x :: (Q ++ (rest ++ Post)))))))
      case atStart => exact ⟨A, [], by have := HS.out.2.2.2.1; omega, by rw [HS.out.2.2.2.1], by rw [HS.out.2.2.2.1]; omega, HS.out.2.2.2.2.1, HS.out.2.2.1, HS.out.1⟩
      case round =>
        obtain ⟨A1, Q, rfl, rfl, hA1, hQ, hlen, S⟩ := hrel
        obtain _ | ⟨y, A1⟩ := A1
        · have HX := Lib.hid (⟨hQ, S, hlen⟩ : _ ∧ _ ∧ _)
          clear hQ S hlen
          rw [show a + ([] : List Et).length = a from rfl]
          have hjf : decide ((a : Int) < (a : Int)) = false := decide_eq_false (by omega)
          go_upto_region 4 with (fail)
          go_quiet (fail)
          go_wp2_with fail
          go_roundg gg
          case measure => omega
          case rel =>
            obtain ⟨hQ, S, hlen⟩ := HX.out
            have hBr : B.reverse = x :: Q := by rw [← hQ]; simp [insR]
            refine ⟨i + 1, B, rest, by omega, by go_num, by rw [← HS.out.2.2.2.2.1, insR_len]; have := HS.out.2.2.2.1; omega, by omega, by have := HS.out.2.2.2.2.2; omega, HS.out.2.1, by rw [hBr]; exact hlen, ?_⟩
            rw [hBr]
            exact S.quiet ((Ext.refl [] wr).drewN _)
        · obtain ⟨m, hm⟩ : ∃ m, a + A1.length = m := ⟨_, rfl⟩
          have hown : wr.ownsRow 0 62 2 (.slice (some ⟨g, 0, none⟩) n cap) n (etC ((Pre ++ A1.reverse) ++ y :: x :: (Q ++ (rest ++ Post)))) := by
            have h1 := S.get jj (List.getElem?_set_self hjl)
            have h2 : wr.ownsRow 0 62 2 (.slice (some ⟨g, 0, none⟩) n cap) (Pre ++ ((y :: A1).reverse ++ x :: (Q ++ (rest ++ Post)))).length (etC (Pre ++ ((y :: A1).reverse ++ x :: (Q ++ (rest ++ Post))))) := h1
            rw [hlen, List.reverse_cons, List.append_assoc, ← List.append_assoc Pre] at h2
            exact h2
          obtain ⟨y1, y2, y3, y4⟩ := et_cells hown m (by rw [List.length_append, List.length_reverse, HH.out.2.2.2.2.2.1, hm])
          have hown2 := hown
          rw [show (Pre ++ A1.reverse) ++ y :: x :: (Q ++ (rest ++ Post)) = (Pre ++ A1.reverse ++ [y]) ++ x :: (Q ++ (rest ++ Post)) by simp] at hown2
          obtain ⟨x1, x2, x3, x4⟩ := et_cells hown2 (m + 1) (by rw [List.length_append, List.length_append, List.length_reverse, HH.out.2.2.2.2.2.1, hm]; rfl)
          have hjl2 : a + (y :: A1).length = m + 1 := by rw [List.length_cons]; omega
          rw [hjl2]
          have hm9 : m + 1 < n := by rw [← hlen]; have := HH.out.2.2.2.2.2.1; simp; omega
          have ham : a ≤ m := by omega
          have HX := Lib.hid (⟨hQ, S, hlen, hown, hm, hA1⟩ : _ ∧ _ ∧ _ ∧ _ ∧ _ ∧ _)
          clear hQ S hlen hown hown2 hm hA1 hjl2
          have hjd : decide ((a : Int) < (m : Int) + 1) = true := decide_eq_true (by omega)
          have hmz : (m : Int) < (n : Int) := by omega
          have hmz2 : (m : Int) + 1 < (n : Int) := by omega
          have c1 : ∀ V : Ex wr, V.w.cell? ⟨g, m * 2, none⟩ = some (.string y.1) := fun V => V.cell y1
          have c2 : ∀ V : Ex wr, V.w.cell? ⟨g, m * 2 + 1, none⟩ = some (.slice y.2.1 y.2.2.1 y.2.2.2) := fun V => V.cell y2
          have c3 : ∀ V : Ex wr, V.w.cell? ⟨g, (m + 1) * 2, none⟩ = some (.string x.1) := fun V => V.cell x1
          have c4 : ∀ V : Ex wr, V.w.cell? ⟨g, (m + 1) * 2 + 1, none⟩ = some (.slice x.2.1 x.2.2.1 x.2.2.2) := fun V => V.cell x2
          have HC := Lib.hid (⟨y1, y2, y3, y4, x1, x2, x3, x4⟩ : _ ∧ _ ∧ _ ∧ _ ∧ _ ∧ _ ∧ _ ∧ _)
          clear y1 y2 y3 y4 x1 x2 x3 x4
          go_upto_region 4 with (fail)
          refine wp_region_ext (by kernel_rfl) (by kernel_rfl) ?_
          repeat (go_big_quiet_step (first | (go_at_call 66; refine Calls.ext_of (cmp_walk _ _ _ _ _))))
          refine wpQuiet_nil ?_
          rintro _ ⟨V, rfl⟩
          obtain ⟨z, hz⟩ : ∃ z, cmpN x.1 y.1 = z := ⟨_, rfl⟩
          have hQ := HX.out.1
          rw [insR, hz] at hQ
          rw [hz]
          have V2 := V.ext
          clear c1 c2 c3 c4 hz
          obtain ⟨y1, y2, y3, y4, x1, x2, x3, x4⟩ := HC.out
          have y3 := V.free y1 y3
          have y4 := V.free y2 y4
          have x3 := V.free x1 x3
          have x4 := V.free x2 x4
          have y1 := V.cell y1
          have y2 := V.cell y2
          have x1 := V.cell x1
          have x2 := V.cell x2
          generalize V.w = U at *
          by_cases h0z : z < 0
          · rw [if_pos h0z] at hQ
            have HQ := Lib.hid (⟨hQ, V2⟩ : _ ∧ _)
            clear hQ V2 HC
            go_upto_region 6 with (fail)
            go_region
            go_wp2_with fail
            go_roundg A1.length
            case measure => simp
            case rel =>
              obtain ⟨hQ, hV⟩ := HQ.out
              have hU := ownsRow_ext HX.out.2.2.2.1 hV (by simp)
              have hsw := et_swap hU m (by rw [List.length_append, List.length_reverse, HH.out.2.2.2.2.2.1, HX.out.2.2.2.2.1])
              have hlen2 : (Pre ++ (A1.reverse ++ x :: y :: (Q ++ (rest ++ Post)))).length = n := by
                have := HX.out.2.2.1
                simp only [List.length_append, List.length_reverse, List.length_cons] at this ⊢
                omega
              have S2 := (HX.out.2.1.quiet hV).upd jj (oEt (.slice (some ⟨g, 0, none⟩) n cap) (Pre ++ (A1.reverse ++ x :: y :: (Q ++ (rest ++ Post))))) (List.getElem?_set_self hjl) (((((Ext.refl _ U).setCell ⟨g, (m + 1) * 2, none⟩ (.string y.1) (.inl (by simp [oEt, oSl, Value.ownBlock]))).setCell ⟨g, (m + 1) * 2 + 1, none⟩ (.slice y.2.1 y.2.2.1 y.2.2.2) (.inl (by simp [oEt, oSl, Value.ownBlock]))).setCell ⟨g, m * 2, none⟩ (.string x.1) (.inl (by simp [oEt, oSl, Value.ownBlock]))).setCell ⟨g, m * 2 + 1, none⟩ (.slice x.2.1 x.2.2.1 x.2.2.2) (.inl (by simp [oEt, oSl, Value.ownBlock]))) (Fr.refl _ _) (by
                show World.ownsRow _ 0 62 2 _ (Pre ++ (A1.reverse ++ x :: y :: (Q ++ (rest ++ Post)))).length _
                rw [hlen2, ← List.append_assoc]
                exact hsw)
              rw [List.set_set] at S2
              refine ⟨A1, y :: Q, rfl, ?_, ?_, ?_, hlen2, S2.quiet ((Ext.refl _ _).drew)⟩
              · rw [HX.out.2.2.2.2.1]
              · have := HX.out.2.2.2.2.2; simp only [List.length_cons] at this; omega
              · rw [← hQ]; simp
          · rw [if_neg h0z] at hQ
            have HQ := Lib.hid (⟨hQ, V2⟩ : _ ∧ _)
            clear hQ V2 HC y1 y2 y3 y4 x1 x2 x3 x4
            go_wp2_with fail
            go_roundg gg
            case measure => omega
            case rel =>
              obtain ⟨hQ, hV⟩ := HQ.out
              have hBr : B.reverse = (y :: A1).reverse ++ x :: Q := by rw [← hQ]; simp
              refine ⟨i + 1, B, rest, by omega, by go_num, by rw [← HS.out.2.2.2.2.1, insR_len]; have := HS.out.2.2.2.1; omega, by omega, by have := HS.out.2.2.2.2.2; omega, HS.out.2.1, ?_, ?_⟩
              · rw [hBr, List.append_assoc]; exact HX.out.2.2.1
              · rw [hBr, List.append_assoc]; exact HX.out.2.1.quiet hV
    · obtain rfl : i = b := by omega
      have hr0 : rest = [] := List.length_eq_zero_iff.1 (by omega)
      subst hr0
      rw [sortR] at hR
      subst hR
      rw [List.nil_append] at S
      have HS := Lib.hid S
      clear S hlen hA h1
      go_wp2_with fail
      go_end0
      exact ⟨rfl, HS.out⟩
end Go.Proofs.YtkjcjklnclahdaaGreatDoor.Tr
