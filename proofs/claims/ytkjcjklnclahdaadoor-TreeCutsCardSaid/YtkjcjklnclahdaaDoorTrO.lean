/-
  tree: insertionSortCmpFunc of entries walked, stableCmpFunc of at most 20 of them.
-/
import Derived.Test.YtkjcjklnclahdaaDoorTrN
import Derived.Test.YtkjcjklnclahdaaDoorTrJ
namespace Go.Proofs.YtkjcjklnclahdaaDoor.Tr
open Go.RowKit

set_option maxRecDepth 100000 in
set_option maxHeartbeats 8000000 in
theorem ins_walk (w0 w : World) (L : List Ob) (jj : Nat) (v : Value) (l : List Et) (S : Sep w0 w L) (hj : L[jj]? = some (oEt v l)) (hl : l.length ≤ 1000) :
    Calls Tryd.prog 79 #[v, .int .i64 0, .int .i64 l.length, .func (.func 63) #[] #[]] w fun e w' => e = .returned (.tuple #[]) ∧ Sep w0 w' (L.set jj (oEt v (sortN l))) := by
  obtain ⟨n, hn⟩ : ∃ n, l.length = n := ⟨_, rfl⟩
  obtain ⟨R, hR⟩ : ∃ R, sortR [] l = R := ⟨_, rfl⟩
  have hRl : R.length = n := by rw [← hR, sortR_len, hn]; simp
  have hown : w.ownsRow 0 67 2 v l.length (etC l) := S.get jj hj
  obtain ⟨ao, cap, rfl⟩ := row_slice hown
  have hjl : jj < L.length := (List.getElem?_eq_some_iff.1 hj).1
  have HH := Lib.hid (⟨S, hj, hn, hR, hRl⟩ : _ ∧ _ ∧ _ ∧ _ ∧ _)
  rw [hn] at hl ⊢
  rw [show sortN l = R.reverse by rw [sortN, hR]]
  clear S hj hR hRl hown
  by_cases h0 : n = 0
  · have hl0 : l = [] := List.length_eq_zero_iff.1 (by omega)
    have hnz : (n : Int) ≤ 1 := by omega
    go_enter Tryd.func79, Tryd.ntmps79
    go_wp2_with fail
    go_loopg [8, 9] 0 (fun _ iv v9 wr => iv = .int .i64 1 ∧ w = wr)
    case atStart => exact ⟨rfl, rfl⟩
    case round =>
    obtain ⟨rfl, rfl⟩ := hrel
    go_wp2_with fail
    go_end0
    refine ⟨rfl, ?_⟩
    have hr : R = [] := List.length_eq_zero_iff.1 (by rw [HH.out.2.2.2.2]; exact h0)
    have h1 := HH.out.2.1
    rw [HH.out.2.2.1, hl0] at h1
    rw [hr]
    show Sep w0 w (L.set jj (oEt (.slice ao n cap) []))
    rw [show L.set jj (oEt (Value.slice ao n cap) []) = L from by obtain ⟨q, q2⟩ := List.getElem?_eq_some_iff.1 h1; rw [← q2]; exact List.set_getElem_self q]
    exact HH.out.1
  obtain ⟨g, cap, he⟩ := row_form (HH.out.1.get jj HH.out.2.1 : w.ownsRow 0 67 2 (.slice ao l.length cap) l.length (etC l)) (by omega)
  cases he
  obtain _ | ⟨x0, l⟩ := l
  · exact absurd hn.symm h0
  go_enter Tryd.func79, Tryd.ntmps79
  go_wp2_with fail
  go_loopg [8, 9] n (fun gg iv v9 wr => ∃ (i : Nat) (A rest : List Et), gg + i = n + 1 ∧ iv = .int .i64 i ∧ A.length = i ∧ 1 ≤ i ∧ sortR A rest = R ∧ (A.reverse ++ rest).length = n ∧ Sep w0 wr (L.set jj (oEt (.slice (some ⟨g, 0, none⟩) n cap) (A.reverse ++ rest))))
  case atStart =>
    refine ⟨1, [x0], l, by omega, rfl, rfl, by omega, HH.out.2.2.2.1, hn, ?_⟩
    rw [show [x0].reverse ++ l = x0 :: l from rfl, ← hn, set_self HH.out.2.1]
    exact HH.out.1
  case round =>
    obtain ⟨i, A, rest, hgi, rfl, hA, h1, hR, hlen, S⟩ := hrel
    by_cases hlt : i < n
    · obtain ⟨gg, rfl⟩ : ∃ gg, gk = gg + 1 := ⟨gk - 1, by omega⟩
      have hltz : (i : Int) < (n : Int) := by omega
      obtain _ | ⟨x, rest⟩ := rest
      · rw [List.append_nil, List.length_reverse] at hlen; omega
      rw [sortR] at hR
      obtain ⟨B, hB⟩ : ∃ B, insR x A = B := ⟨_, rfl⟩
      rw [hB] at hR
      have HS := Lib.hid (⟨S, hR, hlen, hA, hB⟩ : _ ∧ _ ∧ _ ∧ _ ∧ _)
      clear S hR hlen hA hB
      go_wp2_with fail
      go_loopg [9] i (fun g2 jv wx => ∃ (A1 Q : List Et), g2 = A1.length ∧ jv = .int .i64 (A1.length : Nat) ∧ A1.length ≤ i ∧ Q.reverse ++ insR x A1 = B ∧ (A1.reverse ++ x :: (Q ++ rest)).length = n ∧ Sep w0 wx (L.set jj (oEt (.slice (some ⟨g, 0, none⟩) n cap) (A1.reverse ++ x :: (Q ++ rest)))))
      case atStart => exact ⟨A, [], by rw [HS.out.2.2.2.1], by rw [HS.out.2.2.2.1], by rw [HS.out.2.2.2.1]; omega, HS.out.2.2.2.2, HS.out.2.2.1, HS.out.1⟩
      case round =>
        obtain ⟨A1, Q, rfl, rfl, hA1, hQ, hlen, S⟩ := hrel
        obtain _ | ⟨y, A1⟩ := A1
        · have HX := Lib.hid (⟨hQ, S, hlen⟩ : _ ∧ _ ∧ _)
          clear hQ S hlen
          rw [show (([] : List Et).length : Nat) = 0 from rfl]
          have hjf : decide ((0 : Int) < ((0 : Nat) : Int)) = false := by decide
          go_upto_region 4 with (fail)
          go_quiet (fail)
          go_wp2_with fail
          go_roundg gg
          case measure => omega
          case rel =>
            obtain ⟨hQ, S, hlen⟩ := HX.out
            have hBr : B.reverse = x :: Q := by rw [← hQ]; simp [insR]
            refine ⟨i + 1, B, rest, by omega, by go_num, by rw [← HS.out.2.2.2.2, insR_len, HS.out.2.2.2.1], by omega, HS.out.2.1, by rw [hBr]; exact hlen, ?_⟩
            rw [hBr]
            exact S.quiet ((Ext.refl [] wr).drewN _)
        · obtain ⟨m, hm⟩ : ∃ m, A1.length = m := ⟨_, rfl⟩
          have hown : wr.ownsRow 0 67 2 (.slice (some ⟨g, 0, none⟩) n cap) n (etC (A1.reverse ++ y :: x :: (Q ++ rest))) := by
            have h1 := S.get jj (List.getElem?_set_self hjl)
            have h2 : wr.ownsRow 0 67 2 (.slice (some ⟨g, 0, none⟩) n cap) ((y :: A1).reverse ++ x :: (Q ++ rest)).length (etC ((y :: A1).reverse ++ x :: (Q ++ rest))) := h1
            rw [hlen, List.reverse_cons, List.append_assoc] at h2
            exact h2
          obtain ⟨y1, y2, y3, y4⟩ := et_cells hown m (by rw [List.length_reverse, hm])
          have hown2 := hown
          rw [show A1.reverse ++ y :: x :: (Q ++ rest) = (A1.reverse ++ [y]) ++ x :: (Q ++ rest) by simp] at hown2
          obtain ⟨x1, x2, x3, x4⟩ := et_cells hown2 (m + 1) (by rw [List.length_append, List.length_reverse, hm]; rfl)
          have hjl2 : (y :: A1).length = m + 1 := by rw [List.length_cons, hm]
          rw [hjl2]
          have hm9 : m + 1 < n := by rw [← hlen]; simp [hm]
          have HX := Lib.hid (⟨hQ, S, hlen, hown, hm, hA1⟩ : _ ∧ _ ∧ _ ∧ _ ∧ _ ∧ _)
          clear hQ S hlen hown hown2 hm hA1 hjl2
          have hjd : decide ((0 : Int) < (m : Int) + 1) = true := decide_eq_true (by omega)
          have hmz : (m : Int) < (n : Int) := by omega
          have hmz2 : (m : Int) + 1 < (n : Int) := by omega
          have c1 : ∀ V : Ex wr, V.w.cell? ⟨g, m * 2, none⟩ = some (.string y.1) := fun V => V.cell y1
          have c2 : ∀ V : Ex wr, V.w.cell? ⟨g, m * 2 + 1, none⟩ = some (.slice y.2.1 y.2.2.1 y.2.2.2) := fun V => V.cell y2
          have c3 : ∀ V : Ex wr, V.w.cell? ⟨g, (m + 1) * 2, none⟩ = some (.string x.1) := fun V => V.cell x1
          have c4 : ∀ V : Ex wr, V.w.cell? ⟨g, (m + 1) * 2 + 1, none⟩ = some (.slice x.2.1 x.2.2.1 x.2.2.2) := fun V => V.cell x2
          have HC := Lib.hid (⟨y1, y2, y3, y4, x1, x2, x3, x4⟩ : _ ∧ _ ∧ _ ∧ _ ∧ _ ∧ _ ∧ _ ∧ _)
          clear y1 y2 y3 y4 x1 x2 x3 x4
          go_upto_region 4 with (fail)
          refine wp_region_ext (by kernel_rfl) (by kernel_rfl) ?_
          repeat (go_big_quiet_step (first | (go_at_call 63; refine Calls.ext_of (cmp_walk _ _ _ _ _))))
          refine wpQuiet_nil ?_
          rintro _ ⟨V, rfl⟩
          obtain ⟨z, hz⟩ : ∃ z, cmpN x.1 y.1 = z := ⟨_, rfl⟩
          have hQ := HX.out.1
          rw [insR, hz] at hQ
          rw [hz]
          have V2 := V.ext
          clear c1 c2 c3 c4 hz
          obtain ⟨y1, y2, y3, y4, x1, x2, x3, x4⟩ := HC.out
          have y3 := V.free y1 y3
          have y4 := V.free y2 y4
          have x3 := V.free x1 x3
          have x4 := V.free x2 x4
          have y1 := V.cell y1
          have y2 := V.cell y2
          have x1 := V.cell x1
          have x2 := V.cell x2
          generalize V.w = U at *
          by_cases h0z : z < 0
          · rw [if_pos h0z] at hQ
            have HQ := Lib.hid (⟨hQ, V2⟩ : _ ∧ _)
            clear hQ V2 HC
            go_upto_region 6 with (fail)
            go_region
            go_wp2_with fail
            go_roundg A1.length
            case measure => simp
            case rel =>
              obtain ⟨hQ, hV⟩ := HQ.out
              have hU := ownsRow_ext HX.out.2.2.2.1 hV (by simp)
              have hsw := et_swap hU m (by rw [List.length_reverse, HX.out.2.2.2.2.1])
              have hlen2 : (A1.reverse ++ x :: y :: (Q ++ rest)).length = n := by
                have := HX.out.2.2.1
                simp only [List.length_append, List.length_reverse, List.length_cons] at this ⊢
                omega
              have S2 := (HX.out.2.1.quiet hV).upd jj (oEt (.slice (some ⟨g, 0, none⟩) n cap) (A1.reverse ++ x :: y :: (Q ++ rest))) (List.getElem?_set_self hjl) (((((Ext.refl _ U).setCell ⟨g, (m + 1) * 2, none⟩ (.string y.1) (.inl (by simp [oEt, oSl, Value.ownBlock]))).setCell ⟨g, (m + 1) * 2 + 1, none⟩ (.slice y.2.1 y.2.2.1 y.2.2.2) (.inl (by simp [oEt, oSl, Value.ownBlock]))).setCell ⟨g, m * 2, none⟩ (.string x.1) (.inl (by simp [oEt, oSl, Value.ownBlock]))).setCell ⟨g, m * 2 + 1, none⟩ (.slice x.2.1 x.2.2.1 x.2.2.2) (.inl (by simp [oEt, oSl, Value.ownBlock]))) (Fr.refl _ _) (by
                show World.ownsRow _ 0 67 2 _ (A1.reverse ++ x :: y :: (Q ++ rest)).length _
                rw [hlen2]
                exact hsw)
              rw [List.set_set] at S2
              refine ⟨A1, y :: Q, rfl, ?_, ?_, ?_, hlen2, S2.quiet ((Ext.refl _ _).drew)⟩
              · rw [HX.out.2.2.2.2.1]
              · have := HX.out.2.2.2.2.2; simp only [List.length_cons] at this; omega
              · rw [← hQ]; simp
          · rw [if_neg h0z] at hQ
            have HQ := Lib.hid (⟨hQ, V2⟩ : _ ∧ _)
            clear hQ V2 HC y1 y2 y3 y4 x1 x2 x3 x4
            go_wp2_with fail
            go_roundg gg
            case measure => omega
            case rel =>
              obtain ⟨hQ, hV⟩ := HQ.out
              have hBr : B.reverse = (y :: A1).reverse ++ x :: Q := by rw [← hQ]; simp
              refine ⟨i + 1, B, rest, by omega, by go_num, by rw [← HS.out.2.2.2.2, insR_len, HS.out.2.2.2.1], by omega, HS.out.2.1, ?_, ?_⟩
              · rw [hBr, List.append_assoc]; exact HX.out.2.2.1
              · rw [hBr, List.append_assoc]; exact HX.out.2.1.quiet hV
    · obtain rfl : i = n := by
        have : A.length + rest.length = n := by rw [← hlen, List.length_append, List.length_reverse]
        omega
      have hr0 : rest = [] := List.length_eq_zero_iff.1 (by
        have : A.length + rest.length = i := by rw [← hlen, List.length_append, List.length_reverse]
        omega)
      subst hr0
      rw [sortR] at hR
      subst hR
      rw [List.append_nil] at S
      have HS := Lib.hid S
      clear S hlen hA h1
      go_wp2_with fail
      go_end0
      exact ⟨rfl, HS.out⟩
set_option maxRecDepth 100000 in
set_option maxHeartbeats 8000000 in
theorem ins_none (w : World) (v : Value) (a : Nat) (ha : a ≤ 1000) :
    Calls Tryd.prog 79 #[v, .int .i64 a, .int .i64 a, .func (.func 63) #[] #[]] w fun e w' => e = .returned (.tuple #[]) ∧ w' = w := by
  go_enter Tryd.func79, Tryd.ntmps79
  go_wp2_with fail
  go_loopg [8, 9] 0 (fun _ iv v9 wr => iv = .int .i64 ((a : Int) + 1) ∧ w = wr)
  case atStart => exact ⟨rfl, rfl⟩
  case round =>
    obtain ⟨rfl, rfl⟩ := hrel
    have hf : ¬ (a : Int) + 1 < (a : Int) := by omega
    go_wp2_with fail
    go_end0
    exact ⟨rfl, rfl⟩
set_option maxRecDepth 100000 in
set_option maxHeartbeats 8000000 in
theorem stable_walk (w0 w : World) (L : List Ob) (jj : Nat) (v : Value) (l : List Et) (S : Sep w0 w L) (hj : L[jj]? = some (oEt v l)) (hl : l.length ≤ 20) :
    Calls Tryd.prog 70 #[v, .int .i64 l.length, .func (.func 63) #[] #[]] w fun e w' => e = .returned (.tuple #[]) ∧ Sep w0 w' (L.set jj (oEt v (sortN l))) := by
  have HI := Lib.hid (ins_walk w0 w L jj v l S hj (by omega))
  have hown : w.ownsRow 0 67 2 v l.length (etC l) := S.get jj hj
  obtain ⟨ao, cap, rfl⟩ := row_slice hown
  clear hown S hj
  obtain ⟨n, hn⟩ : ∃ n, l.length = n := ⟨_, rfl⟩
  rw [hn] at hl HI ⊢
  by_cases h20 : n = 20
  · subst h20
    have HN := Lib.hid (fun w => ins_none w (.slice ao 20 cap) 20 (by omega))
    clear hl
    go_enter Tryd.func70, Tryd.ntmps70
    go_wp2_with fail
    go_loopg [7, 8] 2 (fun g av bv wr => (g = 2 ∧ av = .int .i64 0 ∧ bv = .int .i64 20 ∧ w = wr) ∨ (g = 1 ∧ av = .int .i64 20 ∧ bv = .int .i64 40 ∧ Sep w0 wr (L.set jj (oEt (.slice ao 20 cap) (sortN l)))))
    case atStart => exact .inl ⟨rfl, rfl, rfl, rfl⟩
    case round =>
      rcases hrel with ⟨rfl, rfl, rfl, rfl⟩ | ⟨rfl, rfl, rfl, S⟩
      · go_wp2_with fail
        refine HI.out.mono ?_
        rintro e w2 ⟨rfl, S⟩
        have HS := Lib.hid S
        clear S HI
        go_wp2_with fail
        go_roundg 1
        case measure => omega
        case rel => exact .inr ⟨rfl, rfl, rfl, HS.out⟩
      · have HS := Lib.hid S
        clear S
        go_wp2_with fail
        refine (HN.out _).mono ?_
        rintro e w2 ⟨rfl, rfl⟩
        go_wp2_with fail
        go_loopg [6, 7, 8, 9] 0 (fun _ s6 _ _ _ wx => s6 = .int .i64 20 ∧ wx = w2)
        case atStart => exact ⟨rfl, rfl⟩
        case round =>
          obtain ⟨rfl, rfl⟩ := hrel
          go_wp2_with fail
          go_end0
          exact ⟨rfl, HS.out⟩
  · have hlt : ¬ (20 : Int) ≤ (n : Int) := by omega
    have hlt2 : ¬ (20 : Int) < (n : Int) := by omega
    go_enter Tryd.func70, Tryd.ntmps70
    go_wp2_with fail
    go_loopg [7, 8] 0 (fun _ av bv wr => av = .int .i64 0 ∧ bv = .int .i64 20 ∧ w = wr)
    case atStart => exact ⟨rfl, rfl, rfl⟩
    case round =>
      obtain ⟨rfl, rfl, rfl⟩ := hrel
      go_wp2_with fail
      refine HI.out.mono ?_
      rintro e w2 ⟨rfl, S⟩
      have HS := Lib.hid S
      clear S HI
      go_wp2_with fail
      go_loopg [6, 7, 8, 9] 0 (fun _ s6 _ _ _ wx => s6 = .int .i64 20 ∧ wx = w2)
      case atStart => exact ⟨rfl, rfl⟩
      case round =>
        obtain ⟨rfl, rfl⟩ := hrel
        go_wp2_with fail
        go_end0
        exact ⟨rfl, HS.out⟩
set_option maxRecDepth 100000 in
set_option maxHeartbeats 8000000 in
theorem sort_walk (w0 w : World) (L : List Ob) (jj : Nat) (v : Value) (l : List Et) (S : Sep w0 w L) (hj : L[jj]? = some (oEt v l)) (hl : l.length ≤ 20) :
    Calls Tryd.prog 62 #[v, .func (.func 63) #[] #[]] w fun e w' => e = .returned (.tuple #[]) ∧ Sep w0 w' (L.set jj (oEt v (sortN l))) := by
  have HI := Lib.hid (stable_walk w0 w L jj v l S hj hl)
  have hown : w.ownsRow 0 67 2 v l.length (etC l) := S.get jj hj
  obtain ⟨ao, cap, rfl⟩ := row_slice hown
  clear hown S hj
  go_enter Tryd.func62, Tryd.ntmps62
  go_wp2_with fail
  refine HI.out.mono ?_
  rintro e w2 ⟨rfl, S⟩
  have HS := Lib.hid S
  clear S HI
  go_wp2_with fail
  go_end0
  exact ⟨rfl, HS.out⟩
end Go.Proofs.YtkjcjklnclahdaaDoor.Tr
