/-
  The cases of Get and Put as one contract each, for the bits and for the reference; the reference's calls as 'Sep' has them.
-/
import Derived.Test.YtcbmapbpggjblaaBitsActs
namespace Go.Proofs.Ytcbmapbpggjblaa.Bt
open Go.RowKit

theorem set_self {α : Type} {L : List α} {i : Nat} {x : α} (h : L[i]? = some x) : L.set i x = L := by
  apply List.ext_getElem?
  intro j
  by_cases hj : i = j
  · subst hj
    rw [List.getElem?_set_self (List.getElem?_eq_some_iff.1 h).1, h]
  · rw [List.getElem?_set_ne hj]

/-- what Get answers: the value, the error's number, the place behind -/
def gV (s : ByteArray) (hi : Bool) (at_ : Nat) (n : Int) : Nat := if n < 0 ∨ 32 < n then 0 else if 8 * s.size < at_ + n.toNat then 0 else getv s hi at_ n.toNat
def gE (s : ByteArray) (at_ : Nat) (n : Int) : Int := if n < 0 ∨ 32 < n then 2 else if 8 * s.size < at_ + n.toNat then 8 else 0
def gA (s : ByteArray) (at_ : Nat) (n : Int) : Nat := if n < 0 ∨ 32 < n then at_ else if 8 * s.size < at_ + n.toNat then at_ else at_ + n.toNat
theorem gA_le (s : ByteArray) (at_ : Nat) (n : Int) (h : at_ ≤ 8 * s.size) : gA s at_ n ≤ 8 * s.size := by unfold gA; split <;> (try split) <;> omega

section
variable {w0 w : World} {L : List Ob}
theorem sGetAny (i : Nat) {b : Nat} {s : ByteArray} {at_ : Nat} {n : Int} {hi : Bool} (S : Sep w0 w L) (hL : L[i]? = some (oR b s at_ hi)) (hs : s.size ≤ 140737488355328) (ha : at_ ≤ 8 * s.size) :
    Calls Try.prog 13 #[.pointer (some ⟨b, 0, none⟩), .int .i64 n] w fun e w' =>
      e = .returned (.tuple #[.int .u32 (gV s hi at_ n), .int .i64 (gE s at_ n)]) ∧ Sep w0 w' (L.set i (oR b s (gA s at_ n) hi)) := by
  unfold gV gE gA
  by_cases h1 : n < 0 ∨ 32 < n
  · simp only [if_pos h1]
    rw [set_self hL]
    exact (get_arg b n w h1).mono fun _ _ ⟨he, hw⟩ => ⟨he, hw ▸ S⟩
  · simp only [if_neg h1]
    obtain ⟨m, rfl⟩ : ∃ m : Nat, n = m := ⟨n.toNat, by omega⟩
    rw [Int.toNat_natCast]
    by_cases h2 : 8 * s.size < at_ + m
    · simp only [if_pos h2]
      rw [set_self hL]
      exact sGetMore i S hL hs (by omega) ha h2
    · simp only [if_neg h2]
      exact sGet i S hL hs (by omega) (by omega)

theorem sRfNew (s : ByteArray) (hi : Bool) (S : Sep w0 w L) (hs : s.size ≤ 1048576) : Calls Try.prog 16 #[.string s, .bool hi] w fun e w' =>
    ∃ b F, e = .returned (.pointer (some ⟨b, 0, none⟩)) ∧ Sep w0 w' (oRf b F (allBits s hi (8 * s.size)) 0 :: L) := by
  cases hi
  · exact (rfnew_lo s w hs).mono fun _ _ ⟨b, F, he, h, hf, hx⟩ => ⟨b, F, he, S.new hx (oRf b F _ 0) h (fun k hk => by simpa using hf k hk)⟩
  · exact (rfnew_hi s w hs).mono fun _ _ ⟨b, F, he, h, hf, hx⟩ => ⟨b, F, he, S.new hx (oRf b F _ 0) h (fun k hk => by simpa using hf k hk)⟩
theorem sRfLeft (i : Nat) {b : Nat} {F M : List Nat} {n : Nat} (S : Sep w0 w L) (hL : L[i]? = some (oRf b F M n)) (hM : M.length < 2 ^ 40) (hn : n ≤ M.length) :
    Calls Try.prog 20 #[.pointer (some ⟨b, 0, none⟩)] w fun e w' => e = .returned (.int .i64 ((M.length : Int) - n)) ∧ Sep w0 w' L :=
  (rfleft b F M n w hM hn (S.get i hL)).mono fun _ _ ⟨he, hx⟩ => ⟨he, S.quiet hx⟩
theorem rfleft_all {b : Nat} {F : List Nat} {s : ByteArray} {hi : Bool} {q : Nat} (hs : s.size ≤ 1048576) (hq : q ≤ 8 * s.size) (h : RfR w b F (allBits s hi (8 * s.size)) q) :
    Calls Try.prog 20 #[.pointer (some ⟨b, 0, none⟩)] w fun e w' => e = .returned (.int .i64 (8 * s.size - q)) ∧ Ext [] w w' := by
  have hl := allBits_length s hi (8 * s.size)
  have := rfleft b F _ q w (by omega) (by omega) h
  rwa [hl, show ((8 * s.size : Nat) : Int) = 8 * (s.size : Int) from by omega] at this
theorem sRfAlign (i : Nat) {b : Nat} {F M : List Nat} {n : Nat} (S : Sep w0 w L) (hL : L[i]? = some (oRf b F M n)) (hn : n < 2 ^ 40) :
    Calls Try.prog 18 #[.pointer (some ⟨b, 0, none⟩)] w fun e w' => e = .returned (.int .i64 (gap n)) ∧ Sep w0 w' (L.set i (oRf b F M (n + gap n))) :=
  (rfalign b F M n w hn (S.get i hL)).mono fun _ _ ⟨he, h, hx⟩ => ⟨he, S.upd i (oRf b F M (n + gap n)) hL hx (Fr.refl _ _) h⟩
theorem rfget_any (b : Nat) (F M : List Nat) (N n : Nat) (hi : Bool) (w : World) (hL : M.length < 2 ^ 40) (hB : Bin M) (hn : n ≤ 32) (hm : N + n ≤ M.length) (h : RfR w b F M N) :
    Calls Try.prog 19 #[.pointer (some ⟨b, 0, none⟩), .int .i64 n, .bool hi] w fun e w' => e = .returned (.tuple #[.int .u32 (valOf hi (fun i => M.getD (N + i) 0) n), .int .i64 0]) ∧ RfR w' b F M (N + n) ∧ Ext F w w' := by
  cases hi
  · exact rfget_ok_lo b F M N n w hL hB hn hm h
  · exact rfget_ok_hi b F M N n w hL hB hn hm h
theorem sRfGetAny (i : Nat) {b : Nat} {F : List Nat} {s : ByteArray} {at_ : Nat} {n : Int} {hi : Bool} (S : Sep w0 w L) (hL : L[i]? = some (oRf b F (allBits s hi (8 * s.size)) at_)) (hs : s.size ≤ 1048576) (ha : at_ ≤ 8 * s.size) :
    Calls Try.prog 19 #[.pointer (some ⟨b, 0, none⟩), .int .i64 n, .bool hi] w fun e w' =>
      e = .returned (.tuple #[.int .u32 (gV s hi at_ n), .int .i64 (gE s at_ n)]) ∧ Sep w0 w' (L.set i (oRf b F (allBits s hi (8 * s.size)) (gA s at_ n))) := by
  have hl := allBits_length s hi (8 * s.size)
  unfold gV gE gA
  by_cases h1 : n < 0 ∨ 32 < n
  · simp only [if_pos h1]
    rw [set_self hL]
    exact (rfget_arg b n hi w h1).mono fun _ _ ⟨he, hw⟩ => ⟨he, hw ▸ S⟩
  · simp only [if_neg h1]
    obtain ⟨m, rfl⟩ : ∃ m : Nat, n = m := ⟨n.toNat, by omega⟩
    rw [Int.toNat_natCast]
    by_cases h2 : 8 * s.size < at_ + m
    · simp only [if_pos h2]
      rw [set_self hL]
      exact (rfget_more b F _ at_ m hi w (by omega) (by omega) (by omega) (by omega) (S.get i hL)).mono fun _ _ ⟨he, hx⟩ => ⟨he, S.quiet hx⟩
    · simp only [if_neg h2]
      have hv : valOf hi (fun i => (allBits s hi (8 * s.size)).getD (at_ + i) 0) m = getv s hi at_ m := valOf_getv s hi at_ _ m (fun j hj => allBits_getD s hi _ _ (by omega))
      rw [← hv]
      exact (rfget_any b F _ at_ m hi w (by omega) (allBits_bin _ _ _) (by omega) (by omega) (S.get i hL)).mono fun _ _ ⟨he, h, hx⟩ => ⟨he, S.upd i (oRf b F _ (at_ + m)) hL hx (Fr.refl _ _) h⟩
end

/-- what Put answers: the error's number, the bits behind -/
def pBad (v : Nat) (n : Int) : Prop := n < 0 ∨ 32 < n ∨ 2 ^ n.toNat ≤ v
instance (v : Nat) (n : Int) : Decidable (pBad v n) := by unfold pBad; infer_instance
def pE (v : Nat) (n : Int) : Int := if pBad v n then 2 else 0
def pL (hi : Bool) (l : List Nat) (v : Nat) (n : Int) : List Nat := if pBad v n then l else l ++ bitsOf hi v n.toNat
theorem pBad_arg {v : Nat} {n : Int} (h : pBad v n) : n < 0 ∨ 32 < n ∨ (0 ≤ n ∧ n ≤ 32 ∧ (2 : Int) ^ n.toNat ≤ (v : Int)) := by
  rcases h with h | h | h
  · exact .inl h
  · exact .inr (.inl h)
  · by_cases h0 : n < 0
    · exact .inl h0
    · by_cases h1 : 32 < n
      · exact .inr (.inl h1)
      · exact .inr (.inr ⟨by omega, by omega, by exact_mod_cast h⟩)
theorem pL_len (hi : Bool) (l : List Nat) (v : Nat) (n : Int) : (pL hi l v n).length ≤ l.length + 32 := by
  unfold pL
  split
  · omega
  · rename_i h
    have : n.toNat ≤ 32 := by unfold pBad at h; omega
    simp [bitsOf]
    omega
theorem pL_bin {hi : Bool} {l : List Nat} (v : Nat) (n : Int) (h : Bin l) : Bin (pL hi l v n) := by
  unfold pL
  split
  · exact h
  · intro x hx
    rcases List.mem_append.1 hx with hx | hx
    · exact h x hx
    · exact bitsOf_bin _ _ _ x hx
section
variable {w0 w : World} {L : List Ob}
theorem sPutAny (i : Nat) {b : Nat} {F l : List Nat} {v : Nat} {n : Int} {hi : Bool} (S : Sep w0 w L) (hL : L[i]? = some (oW b F hi l)) (hl : l.length < 2 ^ 39) (hv : v < 4294967296) :
    Calls Try.prog 24 #[.pointer (some ⟨b, 0, none⟩), .int .u32 v, .int .i64 n] w fun e w' => e = .returned (.int .i64 (pE v n)) ∧ ∃ F', Sep w0 w' (L.set i (oW b F' hi (pL hi l v n))) := by
  unfold pE pL
  by_cases h : pBad v n
  · simp only [if_pos h]
    exact (wput_arg b v n w (by omega) (by omega) (pBad_arg h)).mono fun _ _ ⟨he, hw⟩ => ⟨he, F, by rw [set_self hL]; exact hw ▸ S⟩
  · simp only [if_neg h]
    unfold pBad at h
    obtain ⟨m, rfl⟩ : ∃ m : Nat, n = m := ⟨n.toNat, by omega⟩
    simp only [Int.toNat_natCast] at h ⊢
    exact sPut i S hL hl hv (by omega) (by omega)
theorem sRfPutAny (i : Nat) {b : Nat} {F l : List Nat} {v : Nat} {n : Int} {hi : Bool} (S : Sep w0 w L) (hL : L[i]? = some (oRw b F l)) (hl : l.length < 2 ^ 39) (hv : v < 4294967296) :
    Calls Try.prog 25 #[.pointer (some ⟨b, 0, none⟩), .int .u32 v, .int .i64 n, .bool hi] w fun e w' => e = .returned (.int .i64 (pE v n)) ∧ ∃ F', Sep w0 w' (L.set i (oRw b F' (pL hi l v n))) := by
  unfold pE pL
  by_cases h : pBad v n
  · simp only [if_pos h]
    exact (rfput_arg b v n hi w (by omega) (by omega) (pBad_arg h)).mono fun _ _ ⟨he, hw⟩ => ⟨he, F, by rw [set_self hL]; exact hw ▸ S⟩
  · simp only [if_neg h]
    unfold pBad at h
    obtain ⟨m, rfl⟩ : ∃ m : Nat, n = m := ⟨n.toNat, by omega⟩
    simp only [Int.toNat_natCast] at h ⊢
    exact (rfput_ok b F l v m hi w hl (by omega) (by omega) (by omega) (S.get i hL)).mono fun _ _ ⟨he, F', h, hx, hf⟩ => ⟨he, F', S.upd i (oRw b F' _) hL hx hf h⟩
theorem sRfWAlign (i : Nat) {b : Nat} {F l : List Nat} (S : Sep w0 w L) (hL : L[i]? = some (oRw b F l)) (hl : l.length < 2 ^ 40) :
    Calls Try.prog 23 #[.pointer (some ⟨b, 0, none⟩)] w fun e w' => e = .returned (.int .i64 (gap l.length)) ∧ ∃ F', Sep w0 w' (L.set i (oRw b F' (l ++ List.replicate (gap l.length) 0))) :=
  (rfwalign b F l w hl (S.get i hL)).mono fun _ _ ⟨he, F', h, hx, hf⟩ => ⟨he, F', S.upd i (oRw b F' _) hL hx hf h⟩
theorem rftext_any (b : Nat) (F L : List Nat) (hi : Bool) (w : World) (hL : L.length < 2 ^ 40) (hB : Bin L) (h : RfW w b F L) :
    Calls Try.prog 28 #[.pointer (some ⟨b, 0, none⟩), .bool hi] w fun e w' => e = .returned (.string (txt (packB hi L))) ∧ Ext [] w w' := by
  cases hi
  · exact rftext_lo b F L w hL hB h
  · exact rftext_hi b F L w hL hB h
end
end Go.Proofs.Ytcbmapbpggjblaa.Bt
