/-
  lzw.Put walked: it tells the bits of 'putB'.
-/
import Derived.Test.YtcbllkopolbhaaaLzP
import Derived.Outline
namespace Go.Proofs.Ytcbllkopolbhaaa.Lz
open Go.RowKit Go.Maps

theorem sCodes {w0 w : World} {L : List Ob} (s : ByteArray) (hs : s.size ≤ 1048576) (S : Sep w0 w L) :
    Calls Try.prog 10 #[.string s] w fun e w' => ∃ v, e = .returned v ∧ Sep w0 w' (oSl 3 1 v (codes (tailB s 0)).length ((codes (tailB s 0)).map iv) :: L) :=
  (codes_walk s w hs).mono fun _ _ ⟨v, he, S'⟩ => ⟨v, he, S.new S'.ext _ (S'.get 0 rfl) (S'.base _ (by simp))⟩
theorem ob_set (i : Nat) {w0 w : World} {L : List Ob} {b : Nat} {cs : Array Value} {t : TypeId} (j : Nat) (u : Value) (S : Sep w0 w L) (hL : L[i]? = some (Ob.one b (.cells cs t (0, 0)))) :
    Sep w0 (w.setCell ⟨b, j, none⟩ u) (L.set i (Ob.one b (.cells (cs.setIfInBounds j u) t (0, 0)))) :=
  S.upd i _ hL ((Ext.refl _ w).setCell _ _ (.inl (by simp [Ob.one]))) (Fr.refl _ _) (heap_setCell_same (S.get i hL) u)

theorem row_form {w : World} {base : Nat} {e : TypeId} {size n : Nat} {v : Value} {xs : List Value} (h : w.ownsRow base e size v n xs) (hn : 0 < n) : ∃ g cap, v = .slice (some ⟨g, 0, none⟩) n cap := by
  obtain ⟨g, cap, hv, _⟩ := h.form hn
  exact ⟨g, cap, hv⟩
theorem drop_at {α : Type} (l : List α) (k : Nat) (h : k < l.length) : l.drop k = l[k] :: l.drop (k + 1) := List.drop_eq_getElem_cons h
set_option maxRecDepth 100000 in
set_option maxHeartbeats 8000000 in
theorem put_walk (s : ByteArray) (early : Bool) (w : World) (hs : s.size ≤ 1048576) :
    Calls Try.prog 11 #[.string s, .bool early] w fun e w' => e = .returned (.string (putS early s)) ∧ Ext [] w w' := by
  obtain ⟨cl, hcl⟩ : ∃ cl, cl = codes (tailB s 0) := ⟨_, rfl⟩
  have hlen := codes_len (tailB s 0)
  rw [tailB_len, ← hcl] at hlen
  have hfit := codes_fits early (tailB s 0) (tailB_lt s 0)
  rw [← hcl] at hfit
  have hpos : 0 < cl.length := by rw [hcl]; simp [codes]
  have htot : [] ++ putF early 258 false (cl.drop 0) = putB early s := by rw [hcl]; rfl
  have HF := Lib.hid hfit
  have HT := Lib.hid htot
  have HC := Lib.hid hcl
  clear hfit hcl htot
  go_enter Try.func11, Try.ntmps11
  go_wp2_with fail
  refine (Bt.sWnew true (Sep.start w)).mono ?_; rintro e w1 ⟨b1, rfl, S⟩
  go_wp2_with fail
  refine (anew_any _).mono ?_; rintro e w2 ⟨rfl, hx⟩
  have S := (S.quiet hx).new ((Ext.refl _ _).alloc (cO 258 false)) (Ob.one w2.heap.size (cO 258 false)) (heap_alloc_at _) (fun q hq => by rw [List.mem_singleton.1 hq]; exact Nat.le_refl _)
  have HS := Lib.hid S
  clear S hx
  go_wp2_with fail
  refine (sCodes s hs HS.out).mono ?_; clear HS; rintro e w3 ⟨v, rfl, S⟩
  rw [← HC.out] at S
  obtain ⟨g, cap, hv⟩ := row_form (S.get 0 rfl) hpos
  rw [hv] at S ⊢
  clear hv
  have HS := Lib.hid S
  clear S
  obtain ⟨B, hB⟩ : ∃ B, w2.heap.size = B := ⟨_, rfl⟩
  rw [hB] at HS ⊢
  clear hB
  go_wp2_with fail
  go_loopg [14] cl.length (fun gg i wr => ∃ k : Nat, gg + k = cl.length ∧ i = .int .i64 k ∧ ∃ n b F l, fits early n b (cl.drop k) ∧ l ++ putF early n b (cl.drop k) = putB early s ∧ l.length ≤ 12 * k ∧
    Sep w wr [oSl 3 1 (.slice (some ⟨g, 0, none⟩) cl.length cap) cl.length (cl.map iv), Ob.one B (cO n b), Bt.oW b1 F true l])
  case atStart => exact ⟨0, by omega, rfl, 258, false, [b1], [], HF.out, HT.out, by simp, HS.out⟩
  case round =>
    clear HF HT HS
    obtain ⟨k, hk, rfl, n, b, F, l, hfit, htot, hl, S⟩ := hrel
    by_cases hlt : k < cl.length
    · obtain ⟨c, hc⟩ : ∃ c, cl[k] = c := ⟨_, rfl⟩
      have hd := drop_at cl k hlt
      rw [hc] at hd
      rw [hd] at hfit htot
      have hc4 : c < 4096 := Nat.lt_of_lt_of_le hfit.1.1 (Nat.pow_le_pow_right (by omega) (wid_le n early).2 : 2 ^ wid n early ≤ 2 ^ 12)
      have hw := wid_le n early
      have hn := hfit.1.2
      have hcell : wr.cell? ⟨g, k, none⟩ = some (.int .i64 c) := ownsRow_at (S.get 0 rfl) (by simp [hlt, hc, iv])
      have hB1 : wr.heap[B]? = some (.cells #[.int .i64 n, .bool b] 45 (0, 0)) := S.get 1 rfl
      have c0 := cellOf hB1 0
      have c1 := cellOf hB1 1
      simp at c0 c1
      have HF := Lib.hid hfit
      have HT := Lib.hid htot
      have HS := Lib.hid S
      have HD := Lib.hid hd
      have HE := Lib.hid hc
      clear hfit htot S hd hc hB1
      go_wp2_with fail
      refine (width_any n early _ (by omega)).mono ?_; rintro e w4 ⟨rfl, rfl⟩
      go_wp2_with fail
      refine (Bt.sPut 2 HS.out rfl (by omega) (by omega) (by omega) HF.out.1.1).mono ?_; clear HS c0 c1 hcell; rintro e w5 ⟨rfl, F', S⟩
      have hB1 : w5.heap[B]? = some (.cells #[.int .i64 n, .bool b] 45 (0, 0)) := S.get 1 rfl
      have c0 := cellOf hB1 0
      have c1 := cellOf hB1 1
      simp at c0 c1
      have HS := Lib.hid S
      clear hB1 S
      go_wp2_with fail
      refine (behind_any n c b _).mono ?_; clear c0 c1; rintro e w6 ⟨rfl, hx⟩
      have S := HS.out.quiet hx
      have hB1 : w6.heap[B]? = some (.cells #[.int .i64 n, .bool b] 45 (0, 0)) := S.get 1 rfl
      have c0 := cellOf hB1 0
      have c1 := cellOf hB1 1
      have f0 := freeOf hB1 0
      have f1 := freeOf hB1 1
      simp at c0 c1
      have HS := Lib.hid S
      clear hB1 S hx
      go_wp2_with fail
      go_roundg (cl.length - (k + 1))
      case measure => omega
      case rel =>
        refine ⟨k + 1, by omega, by go_num, bhN n b c, bhB c, F', l ++ Bt.bitsOf true c (wid n early), HF.out.2, ?_, ?_, ?_⟩
        · rw [List.append_assoc]; exact HT.out
        · rw [List.length_append, Bt.bitsOf_length]; omega
        · exact ob_set 1 1 _ (ob_set 1 0 _ HS.out rfl) rfl
    · have hk' : cl.drop k = [] := List.drop_eq_nil_iff.2 (by omega)
      rw [hk', putF, List.append_nil] at htot
      have HT := Lib.hid htot
      have HS := Lib.hid S
      clear htot S hk' hfit
      go_wp2_with fail
      refine (Bt.sText 2 HS.out rfl).mono ?_; rintro e w4 ⟨rfl, rfl⟩
      go_wp2_with fail
      go_ret
      rw [HT.out]
      exact ⟨rfl, HS.out.ext⟩
end Go.Proofs.Ytcbllkopolbhaaa.Lz
