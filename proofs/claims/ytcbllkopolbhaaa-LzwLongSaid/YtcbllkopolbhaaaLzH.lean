/-
  lzw.Get walked: slices.Clone at bytes; the loop.
-/
import Derived.Test.YtcbllkopolbhaaaLzG
import Derived.Test.YtcbllkopolbhaaaLzS
namespace Go.Proofs.Ytcbllkopolbhaaa.Lz
open Go.RowKit Go.Maps

theorem row_shape2 {w : World} {base : Nat} {e : TypeId} {k n : Nat} {v : Value} {xs : List Value} (hk : 0 < k) (h : w.ownsRow base e k v n xs) : ∃ ao cap, v = .slice ao n cap := by
  rcases h.2 with ⟨h0, hx⟩ | ⟨g, cap, cur, rfl, _⟩
  · have h1 := h.1
    rw [hx] at h1
    obtain rfl : n = 0 := by
      rcases Nat.eq_zero_or_pos n with h | h
      · exact h
      · have := Nat.mul_pos h hk; simp at h1; omega
    exact ⟨none, 0, h0⟩
  · exact ⟨_, cap, rfl⟩
theorem row_zero {w : World} {base : Nat} {e : TypeId} {k n cap : Nat} {ao : Option Addr} {xs : List Value} (h : w.ownsRow base e k (.slice ao n cap) n xs) : w.ownsRow base e k (.slice ao 0 cap) 0 [] := by
  refine ⟨by simp, ?_⟩
  rcases h.2 with ⟨h0, hx⟩ | ⟨g, cap', cur, hv, h1, h2, h3, h4, h5, h6⟩
  · cases h0; exact .inl ⟨rfl, rfl⟩
  · cases hv; exact .inr ⟨g, cap, cur, rfl, h1, h2, Nat.zero_le _, h4, h5, by simp⟩
theorem Sep.snd {w0 w : World} {a b : Ob} {l : List Ob} (h : Sep w0 w (a :: b :: l)) : Sep w0 w (a :: l) := by
  refine ⟨h.ext, fun o ho => h.each o (by simp at ho ⊢; rcases ho with ho | ho <;> simp [ho]), fun o ho => h.base o (by simp at ho ⊢; rcases ho with ho | ho <;> simp [ho]), fun i j x y hi hj hij => ?_⟩
  have sh : ∀ i : Nat, ∀ x : Ob, (a :: l)[i]? = some x → (a :: b :: l)[if i = 0 then 0 else i + 1]? = some x := fun i x h => by
    cases i with
    | zero => simpa using h
    | succ i => simpa using h
  refine h.apart _ _ x y (sh i x hi) (sh j y hj) ?_
  split <;> split <;> omega

set_option maxRecDepth 100000 in
set_option maxHeartbeats 8000000 in
theorem clone_walk (v : Value) (l : List Nat) (w : World) (hp : 0 < l.length) (hn : l.length ≤ 10000) (hw : w.ownsRow 0 5 1 v l.length (l.map Bt.b8)) :
    Calls Try.prog 26 #[v] w fun e w' => ∃ v', e = .returned v' ∧ Sep w w' [oBs v' l] := by
  obtain ⟨j0, hif, hz0, hz1, hz2⟩ := info_parts Bt.infoByte
  obtain ⟨g, cap, rfl⟩ := row_form hw hp
  have hE : (w.alloc (.cells #[] 5 (0, 0))).ownsRow 0 5 1 (.slice (some ⟨w.heap.size, 0, none⟩) 0 0) 0 [] :=
    ⟨rfl, .inr ⟨w.heap.size, 0, #[], rfl, Nat.zero_le _, heap_alloc_at _, Nat.le_refl _, by unfold maxLen; omega, rfl, rfl⟩⟩
  have hnews : ∀ j u, (l.map Bt.b8)[j]? = some u → (w.alloc (.cells #[] 5 (0, 0))).cell? ((⟨g, 0, none⟩ : Addr).add j) = some u := (hw.alloc _).cells rfl
  have hnil := fun w1 => Lib.run_eql_slice_nil (P := Try.prog) w1 36 5 (some ⟨g, 0, none⟩) l.length cap 0 0 Try.underlying36
  go_enter Try.func26, Try.ntmps26
  go_wp2_with (at_builtin; refine wpList_append_lies _ rfl _ _ 36 rfl 0 5 j0 _ 1 1 Try.underlying36 hif hz0 hz1 hz2 rfl (by decide) (.slice (some ⟨w.heap.size, 0, none⟩) 0 0) 0 [] rfl hE ⟨g, 0, none⟩ l.length cap (l.map Bt.b8) rfl (by simp) hnews (by simp [Bt.b8, Value.oneCell']) hp (by unfold maxLen; omega) (by omega) (by omega) (w.heap.size + 1) (by simp) ?_; intro g1 cap1 w3 hown1 hgrow1 hat1 hlt1)
  go_ret
  rw [Nat.zero_add] at hown1
  refine ⟨_, rfl, (Sep.start w).new (((Ext.refl [] w).alloc _).grown hgrow1 (fun k hk => .inr (by simp [Value.ownBlock] at hk; omega))) (oBs _ l) ?_ (fun q hq => ?_)⟩
  · simpa [oBs, oSl] using hown1
  · obtain rfl : q = g1 := by simpa [oBs, oSl, Value.ownBlock] using hq
    rcases hat1 with h | h
    · simp [Value.ownBlock] at h; omega
    · omega
end Go.Proofs.Ytcbllkopolbhaaa.Lz
