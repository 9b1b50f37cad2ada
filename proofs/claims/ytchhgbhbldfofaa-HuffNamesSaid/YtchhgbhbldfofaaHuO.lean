/-
  huff's Table: Size, Write, Read walked.
-/
import Derived.Test.YtchhgbhbldfofaaHuN
import Derived.Test.YtchhgbhbldfofaaBitsUse
namespace Go.Proofs.Ytchhgbhbldfofaa.Hu
open Go.RowKit Bt

theorem i64_or_bit (x y : Nat) (hx : x < 65536) (hy : y ≤ 1) : bits .or .i64 ((x : Int) * 2) (y : Int) = (x : Int) * 2 + (y : Int) := by
  have key : (BitVec.ofInt 64 ((x : Int) * 2) ||| BitVec.ofInt 64 (y : Int)).toNat = 2 ^ 1 * x + y := by
    rw [BitVec.toNat_or, BitVec.toNat_ofInt, BitVec.toNat_ofInt, Nat.two_pow_add_eq_or_of_lt (by omega : y < 2 ^ 1)]
    congr 1 <;> omega
  show IntKind.i64.wrap ((BitVec.ofInt 64 ((x : Int) * 2) ||| BitVec.ofInt 64 (y : Int)).toNat : Nat) = _
  rw [key, IntKind.wrap_i64]
  omega
theorem own_at {w : World} {E : TypeId} {v : Value} {n : Nat} {xs : List Value} (h : w.ownsRow 0 E 1 v n xs) (hn : 0 < n) : ∃ g cap, v = .slice (some ⟨g, 0, none⟩) n cap := by
  rcases h.2 with ⟨_, h0⟩ | ⟨g, cap, cur, rfl, _⟩
  · omega
  · exact ⟨g, cap, rfl⟩
/-! ### Size -/
def sizeZ (l : List Int) (s : Int) : Int := if s < 0 ∨ (l.length : Int) ≤ s then 0 else l.getD s.toNat 0
theorem size_nil (s : Int) (w : World) : Calls Try.prog 24 #[.pointer none, .int .i64 s] w fun e w' => e = .returned (.int .i64 0) ∧ w = w' := by
  go_enter Try.func24, Try.ntmps24
  go_wp2_with fail
  go_ret
  exact ⟨rfl, rfl⟩
set_option maxRecDepth 100000 in
set_option maxHeartbeats 4000000 in
theorem size_walk (tb : Nat) (F : List Nat) (l : List Int) (s : Int) (w : World) (h : (oTab tb F l).P w) (hl : l.length ≤ 1048576) :
    Calls Try.prog 24 #[.pointer (some ⟨tb, 0, none⟩), .int .i64 s] w fun e w' => e = .returned (.int .i64 (sizeZ l s)) ∧ Ext [] w w' := by
  obtain ⟨vl, vc, vs, hb, h1, h2, h3, _⟩ := h
  obtain ⟨aol, capl, rfl⟩ := own_slice h1
  have c0' : w.cell? ⟨tb, 0, none⟩ = some (.slice aol l.length capl) := cellOf hb 0
  by_cases q0 : s < 0
  · have e : sizeZ l s = 0 := by unfold sizeZ; rw [if_pos (.inl q0)]
    rw [e]
    clear e h1 h2 h3 hb
    go_enter Try.func24, Try.ntmps24
    go_wp2_with fail
    go_ret
    exact ⟨rfl, Ext.refl _ _⟩
  · by_cases q1 : (l.length : Int) ≤ s
    · have e : sizeZ l s = 0 := by unfold sizeZ; rw [if_pos (.inr q1)]
      rw [e]
      clear e h1 h2 h3 hb
      go_enter Try.func24, Try.ntmps24
      go_wp2_with fail
      go_ret
      exact ⟨rfl, Ext.refl _ _⟩
    · obtain ⟨k, rfl⟩ : ∃ k : Nat, s = k := ⟨s.toNat, by omega⟩
      have hk : k < l.length := by omega
      obtain ⟨x, hx⟩ : ∃ x, l[k]? = some x := ⟨_, List.getElem?_eq_getElem hk⟩
      have e : sizeZ l k = x := by unfold sizeZ; rw [if_neg (by omega), Int.toNat_natCast, List.getD_eq_getElem?_getD, hx]; rfl
      rw [e]
      obtain ⟨g, cap, hv⟩ := own_at h1 (by omega)
      injection hv with hv1 _ hv2
      subst hv1 hv2
      have d0 : w.cell? ⟨g, k, none⟩ = some (iz x) := ownsRow_at h1 (by rw [List.getElem?_map, hx]; rfl)
      clear e h1 h2 h3 hb hx
      go_enter Try.func24, Try.ntmps24
      go_wp2_with fail
      go_ret
      exact ⟨rfl, Ext.refl _ _⟩
end Go.Proofs.Ytchhgbhbldfofaa.Hu
