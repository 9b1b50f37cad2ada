/-
  tree: stableCmpFunc, SortStableFunc of entries walked.
-/
import Derived.Test.YtkjcjklnclahdaaGreatDoorTtK
namespace Go.Proofs.YtkjcjklnclahdaaGreatDoor.Tr
open Go.RowKit

/-- sorted in blocks of k -/
def blk (k : Nat) (l : List Et) : List Et := if _h : k = 0 ∨ l.length < k then sortN l else sortN (l.take k) ++ blk k (l.drop k)
termination_by l.length
decreasing_by rw [List.length_drop]; omega
theorem blk_few {k : Nat} {l : List Et} (h : l.length < k) : blk k l = sortN l := by rw [blk, dif_pos (.inr h)]
theorem blk_more {k : Nat} {A B : List Et} (hk : 0 < k) (h : A.length = k) : blk k (A ++ B) = sortN A ++ blk k B := by
  rw [blk, dif_neg (by rw [List.length_append]; omega), ← h, List.take_left, List.drop_left]
theorem blk_len (k : Nat) : ∀ (n : Nat) (l : List Et), l.length ≤ n → (blk k l).length = l.length
  | 0, l, h => by
    rw [blk]
    split
    · exact sortN_len l
    · omega
  | n + 1, l, h => by
    rw [blk]
    split
    · exact sortN_len l
    · rename_i h2
      rw [List.length_append, sortN_len, blk_len k n _ (by rw [List.length_drop]; omega), List.length_take, List.length_drop]
      omega
theorem sortN_nil : sortN [] = [] := rfl
theorem sort_two {A B : List Et} (hd : ndE (A ++ B)) : sortN (sortN A ++ sortN B) = sortN (A ++ B) :=
  sym_eq (ndE_perm ((sortN_perm A).append (sortN_perm B)).symm hd) (sortN_strict hd) ((sortN_perm _).trans ((sortN_perm A).append (sortN_perm B)).symm)
theorem split_at {l : List Et} {k : Nat} (h : k ≤ l.length) : ∃ A B, l = A ++ B ∧ A.length = k ∧ B.length = l.length - k := ⟨l.take k, l.drop k, by rw [List.take_append_drop], by rw [List.length_take]; omega, List.length_drop⟩
theorem blk_small {k : Nat} {l : List Et} (h0 : 0 < k) (h : l.length ≤ k) : blk k l = sortN l := by
  rcases Nat.lt_or_ge l.length k with q | q
  · exact blk_few q
  · have := blk_more (A := l) (B := []) h0 (by omega)
    rw [List.append_nil] at this
    rw [this, blk_few (by simpa using h0), sortN_nil, List.append_nil]
set_option maxRecDepth 100000 in
set_option maxHeartbeats 4000000 in
theorem stable2_walk (w0 w : World) (L : List Ob) (jj : Nat) (v : Value) (l : List Et) (S : Sep w0 w L) (hj : L[jj]? = some (oEt v l)) (hl : l.length ≤ 1000) (hd : ndE l) :
    Calls Tryz.prog 78 #[v, .int .i64 l.length, .func (.func 66) #[] #[]] w fun e w' => e = .returned (.tuple #[]) ∧ Sep w0 w' (L.set jj (oEt v (sortN l))) := by
  obtain ⟨n, hn⟩ : ∃ n, l.length = n := ⟨_, rfl⟩
  have hown : w.ownsRow 0 62 2 v l.length (etC l) := S.get jj hj
  obtain ⟨ao, cap, rfl⟩ := row_slice hown
  have hjl : jj < L.length := (List.getElem?_eq_some_iff.1 hj).1
  have hL9 : L.set jj (oEt (.slice ao n cap) l) = L := by rw [← hn]; exact set_self hj
  obtain ⟨R, hR⟩ : ∃ R, sortN l = R := ⟨_, rfl⟩
  obtain ⟨B20, hB20⟩ : ∃ B, blk 20 l = B := ⟨_, rfl⟩
  have HI := Lib.hid (fun W (Pre M Post : List Et) (S : Sep w0 W (L.set jj (oEt (.slice ao n cap) (Pre ++ (M ++ Post))))) (h9 : (Pre ++ (M ++ Post)).length = n) (a b : Nat) (ha : Pre.length = a) (hb : a + M.length = b) => ins2_walk w0 W _ jj (.slice ao n cap) Pre M Post S (List.getElem?_set_self hjl) (by omega) a b ha hb)
  have HM := Lib.hid (fun W (P X Y Q : List Et) (S : Sep w0 W (L.set jj (oEt (.slice ao n cap) (P ++ (X ++ (Y ++ Q)))))) (h9 : (P ++ (X ++ (Y ++ Q))).length = n) (a m b : Nat) (ha : P.length = a) (hm : a + X.length = m) (hb : m + Y.length = b) (h1 : 0 < X.length) (h2 : 0 < Y.length) (hX : upE X) (hY : upE Y) (hd2 : ndE (X ++ Y)) => sym_walk _ w0 W _ jj (.slice ao n cap) P X Y Q S (List.getElem?_set_self hjl) (by omega) a m b ha hm hb h1 h2 hX hY hd2 (Nat.le_refl _))
  simp only [List.set_set] at HI HM
  have HH := Lib.hid (⟨S, hn, hL9, hR, hB20, hd⟩ : _ ∧ _ ∧ _ ∧ _ ∧ _ ∧ _)
  rw [hn] at hl ⊢
  rw [hR]
  clear S hj hown hn hL9 hR hB20 hd
  go_enter Tryz.func78, Tryz.ntmps78
  go_wp2_with fail
  go_loopg [7, 8] n (fun gg av bv wr => ∃ (a : Nat) (D rest : List Et), gg + a = n ∧ av = .int .i64 a ∧ bv = .int .i64 ((a : Int) + 20) ∧ D.length = a ∧ a + rest.length = n ∧ D ++ blk 20 rest = B20 ∧ Sep w0 wr (L.set jj (oEt (.slice ao n cap) (D ++ rest))))
  case atStart =>
    refine ⟨0, [], l, by omega, rfl, rfl, rfl, by rw [Nat.zero_add]; exact HH.out.2.1, HH.out.2.2.2.2.1, ?_⟩
    rw [List.nil_append, HH.out.2.2.1]
    exact HH.out.1
  case round =>
    obtain ⟨a, D, rest, hga, rfl, rfl, hD, hr, hB, S⟩ := hrel
    by_cases h20 : 20 ≤ rest.length
    · have hz : (a : Int) + 20 ≤ (n : Int) := by omega
      obtain ⟨M, Q, rfl, hM, hQ⟩ := split_at h20
      rw [blk_more (by omega) hM] at hB
      rw [List.length_append] at hr hQ
      have HC := Lib.hid (HI.out wr D M Q S (by simp only [List.length_append]; omega) a (a + 20) hD (by omega))
      rw [show ((a + 20 : Nat) : Int) = (a : Int) + 20 by omega] at HC
      have HB := Lib.hid hB
      clear S hB h20
      go_wp2_with fail
      refine HC.out.mono ?_
      rintro e w2 ⟨rfl, S⟩
      have HS := Lib.hid S
      clear S HC
      go_wp2_with fail
      go_roundg (n - (a + 20))
      case measure => omega
      case rel =>
        exact ⟨a + 20, D ++ sortN M, Q, by omega, by go_num, by go_num, by rw [List.length_append, sortN_len]; omega, by omega, by rw [← HB.out]; simp, by simpa using HS.out⟩
    · have hz : ¬ (a : Int) + 20 ≤ (n : Int) := by omega
      rw [blk_few (by omega)] at hB
      have HC := Lib.hid (HI.out wr D rest [] (by rw [List.append_nil]; exact S) (by simp only [List.length_append, List.length_nil]; omega) a n hD hr)
      have hDB : D ++ (sortN rest ++ []) = B20 := by rw [List.append_nil]; exact hB
      rw [hDB] at HC
      clear S hB h20 hDB hr hD hga
      go_wp2_with fail
      refine HC.out.mono ?_
      rintro e w2 ⟨rfl, S⟩
      have HS := Lib.hid S
      clear S HC
      go_wp2_with fail
      clear hz
      go_loopg [6, 7, 8, 9] (n - 20) (fun gg kv _ _ _ wx => ∃ k : Nat, gg = n - k ∧ 20 ≤ k ∧ k ≤ 2000 ∧ kv = .int .i64 k ∧ Sep w0 wx (L.set jj (oEt (.slice ao n cap) (blk k l))))
      case atStart => exact ⟨20, rfl, by omega, by omega, rfl, by rw [HH.out.2.2.2.2.1]; exact HS.out⟩
      case round =>
        clear HS
        obtain ⟨k, rfl, hk20, hk2, rfl, S⟩ := hrel
        by_cases hkn : k < n
        · have hkz : (k : Int) < (n : Int) := by omega
          obtain ⟨F, hF⟩ : ∃ F, blk (2 * k) l = F := ⟨_, rfl⟩
          have HS := Lib.hid (⟨S, hF⟩ : _ ∧ _)
          have HF2 := Lib.hid hF
          clear S hF
          go_wp2_with fail
          go_loopg [7, 8] n (fun gg av bv wy => ∃ (a : Nat) (D rest : List Et), gg + a = n ∧ av = .int .i64 a ∧ bv = .int .i64 ((a : Int) + 2 * (k : Int)) ∧ D.length = a ∧ a + rest.length = n ∧ ndE rest ∧ D ++ blk (2 * k) rest = F ∧ Sep w0 wy (L.set jj (oEt (.slice ao n cap) (D ++ blk k rest))))
          case atStart => exact ⟨0, [], l, by omega, rfl, by simp, rfl, by rw [Nat.zero_add]; exact HH.out.2.1, HH.out.2.2.2.2.2, HS.out.2, HS.out.1⟩
          case round =>
            clear HS
            obtain ⟨a, D, rest, hga, rfl, rfl, hD, hr, hnd, hF, S⟩ := hrel
            by_cases h2k : 2 * k ≤ rest.length
            · have hz : (a : Int) + 2 * (k : Int) ≤ (n : Int) := by omega
              obtain ⟨A, Z, rfl, hA, hZ⟩ := split_at (l := rest) (k := k) (by omega)
              obtain ⟨B, Q, rfl, hB, hQ⟩ := split_at (l := Z) (k := k) (by omega)
              rw [blk_more (by omega) hA, blk_more (by omega) hB] at S
              rw [← List.append_assoc, blk_more (A := A ++ B) (by omega) (by rw [List.length_append]; omega)] at hF
              have hQl := blk_len k _ Q (Nat.le_refl _)
              simp only [List.length_append] at hr hZ hQ
              have hndAB : ndE (A ++ B) := ndE_sub (by rw [← List.append_assoc]; exact List.sublist_append_left _ _) hnd
              have hndQ : ndE Q := ndE_sub (by rw [← List.append_assoc]; exact List.sublist_append_right _ _) hnd
              have hndS : ndE (sortN A ++ sortN B) := ndE_perm ((sortN_perm A).append (sortN_perm B)).symm hndAB
              have HC := Lib.hid (HM.out wr D (sortN A) (sortN B) (blk k Q) S (by simp only [List.length_append, sortN_len]; omega) a (a + k) (a + 2 * k) hD (by rw [sortN_len]; omega) (by rw [sortN_len]; omega) (by rw [sortN_len]; omega) (by rw [sortN_len]; omega) (sortN_strict (ndE_sub (List.sublist_append_left _ _) hndAB)) (sortN_strict (ndE_sub (List.sublist_append_right _ _) hndAB)) hndS)
              rw [sort_two hndAB, show ((a + k : Nat) : Int) = (a : Int) + (k : Int) by omega, show ((a + 2 * k : Nat) : Int) = (a : Int) + 2 * (k : Int) by omega] at HC
              have HB := Lib.hid (⟨hF, hndQ⟩ : _ ∧ _)
              clear S hF hnd hndAB hndQ hndS h2k hQl
              go_wp2_with fail
              refine HC.out.mono ?_
              rintro e w3 ⟨rfl, S⟩
              have HS := Lib.hid S
              clear S HC
              go_wp2_with fail
              go_roundg (n - (a + 2 * k))
              case measure => omega
              case rel =>
                exact ⟨a + 2 * k, D ++ sortN (A ++ B), Q, by omega, by go_num, by go_num, by rw [List.length_append, sortN_len, List.length_append]; omega, by omega, HB.out.2, by rw [← HB.out.1]; simp, by simpa using HS.out⟩
            · have hz : ¬ (a : Int) + 2 * (k : Int) ≤ (n : Int) := by omega
              rw [blk_few (k := 2 * k) (by omega)] at hF
              by_cases hm : a + k < n
              · have hmz : (a : Int) + (k : Int) < (n : Int) := by omega
                obtain ⟨A, B, rfl, hA, hB⟩ := split_at (l := rest) (k := k) (by omega)
                simp only [List.length_append] at hr hB h2k
                rw [blk_more (by omega) hA, blk_few (l := B) (by omega)] at S
                have hndS : ndE (sortN A ++ sortN B) := ndE_perm ((sortN_perm A).append (sortN_perm B)).symm hnd
                have HC := Lib.hid (HM.out wr D (sortN A) (sortN B) [] (by rw [List.append_nil]; exact S) (by simp only [List.length_append, sortN_len, List.length_nil]; omega) a (a + k) n hD (by rw [sortN_len]; omega) (by rw [sortN_len]; omega) (by rw [sortN_len]; omega) (by rw [sortN_len]; omega) (sortN_strict (ndE_sub (List.sublist_append_left _ _) hnd)) (sortN_strict (ndE_sub (List.sublist_append_right _ _) hnd)) hndS)
                rw [sort_two hnd, List.append_nil, hF, show ((a + k : Nat) : Int) = (a : Int) + (k : Int) by omega] at HC
                clear S hF hnd hndS h2k hA hB hr hD
                go_wp2_with fail
                refine HC.out.mono ?_
                rintro e w3 ⟨rfl, S⟩
                have HS := Lib.hid S
                clear S HC
                go_wp2_with fail
                go_roundg (n - 2 * k)
                case measure => omega
                case rel => exact ⟨2 * k, rfl, by omega, by omega, by go_num, by rw [HF2.out]; exact HS.out⟩
              · have hmz : ¬ (a : Int) + (k : Int) < (n : Int) := by omega
                rw [blk_small (k := k) (by omega) (by omega), hF] at S
                have HS := Lib.hid S
                clear S hF hnd h2k hr hD
                go_wp2_with fail
                go_roundg (n - 2 * k)
                case measure => omega
                case rel => exact ⟨2 * k, rfl, by omega, by omega, by go_num, by rw [HF2.out]; exact HS.out⟩
        · have hkz : ¬ (k : Int) < (n : Int) := by omega
          rw [blk_small (by omega) (by rw [HH.out.2.1]; omega), HH.out.2.2.2.1] at S
          have HS := Lib.hid S
          clear S
          go_wp2_with fail
          go_end0
          exact ⟨rfl, HS.out⟩
set_option maxRecDepth 100000 in
set_option maxHeartbeats 2000000 in
theorem sort2_walk (w0 w : World) (L : List Ob) (jj : Nat) (v : Value) (l : List Et) (S : Sep w0 w L) (hj : L[jj]? = some (oEt v l)) (hl : l.length ≤ 20 ∨ l.length ≤ 1000 ∧ ndE l) :
    Calls Tryz.prog 65 #[v, .func (.func 66) #[] #[]] w fun e w' => e = .returned (.tuple #[]) ∧ Sep w0 w' (L.set jj (oEt v (sortN l))) := by
  rcases hl with hl | ⟨hl, hd⟩
  · exact sort_walk w0 w L jj v l S hj hl
  have HI := Lib.hid (stable2_walk w0 w L jj v l S hj hl hd)
  have hown : w.ownsRow 0 62 2 v l.length (etC l) := S.get jj hj
  obtain ⟨ao, cap, rfl⟩ := row_slice hown
  clear hown S hj hd
  go_enter Tryz.func65, Tryz.ntmps65
  go_wp2_with fail
  refine HI.out.mono ?_
  rintro e w2 ⟨rfl, S⟩
  have HS := Lib.hid S
  clear S HI
  go_wp2_with fail
  go_end0
  exact ⟨rfl, HS.out⟩
end Go.Proofs.YtkjcjklnclahdaaGreatDoor.Tr
