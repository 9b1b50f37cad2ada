/-
  deflate, plain: blocks of kinds 0 and 1, and their unpacking. No program is in sight here.
-/
import Derived.Test.YtnapnaaejignaaaGreatDfA
import Derived.Test.YtnapnaaejignaaaGreatPkQ
namespace Go.Proofs.YtnapnaaejignaaaGreat.De
open Go.RowKit Bt Hu If Mt

/-! ### a block of kind 1 -/
def fixedB (s : ByteArray) : List Nat := bitsOf false 1 1 ++ (bitsOf false 1 2 ++ pcsB fixL fixD (allN s))
def fixedN (s : ByteArray) : ByteArray := txt (packB false (fixedB s))
theorem fix_at (i : Nat) (h : i < 288) : fixL[i]? = some (if i < 144 then 8 else if i ≤ 255 then 9 else if i ≤ 279 then 7 else 8) := by
  revert i
  decide +kernel
theorem fixL_pos (s : Nat) (h : s < 288) : 0 < fixL.getD s 0 ∧ fixL.getD s 0 ≤ 9 := by
  rw [List.getD_eq_getElem?_getD, fix_at s h, Option.getD_some]
  split
  · omega
  · split
    · omega
    · split <;> omega
theorem fixD_at (s : Nat) (h : s < 30) : fixD.getD s 0 = 5 := by
  unfold fixD
  rw [List.getD_eq_getElem?_getD, List.getElem?_replicate, if_pos h, Option.getD_some]
theorem fixL_bad : badL fixL = false ∧ kra fixL ≤ 32768 := by decide +kernel
theorem fixD_bad : badL fixD = false ∧ kra fixD ≤ 32768 := by decide +kernel
theorem fixL_15 : Le15 fixL := by unfold Le15; decide +kernel
theorem fixD_15 : Le15 fixD := by unfold Le15; decide +kernel
theorem fix_use {l : List Pc} (h : badN l = false) : ∀ x ∈ l, PcUse fixL fixD x := fun x hx => by
  unfold badN at h
  rw [List.any_eq_false] at h
  have hm := mayP_iff x (by simpa using h x hx)
  refine ⟨fun _ => (fixL_pos _ (by have := x.1.toNat_lt; omega)).1, fun h0 => ?_⟩
  obtain ⟨a1, a2, _⟩ := ls_facts x.2.1.toNat (by omega) (by omega)
  obtain ⟨b1, _⟩ := ds_facts x.2.2.toNat (by omega) (by omega)
  exact ⟨(fixL_pos _ (by omega)).1, by rw [fixD_at _ (by omega)]; omega⟩
theorem fixedB_facts (s : ByteArray) : (fixedB s).length ≤ 48 * s.size + 18 ∧ Bin (fixedB s) := by
  have h1 := pcsB_len fixL_15 fixD_15 (allN s) (chk_zero (allN_chk s)).1
  have h2 := allN_len s
  unfold fixedB
  refine ⟨?_, Bin.app8 (bitsOf_bin _ _ _) (Bin.app8 (bitsOf_bin _ _ _) (pcsB_bin _ _ _))⟩
  simp only [List.length_append, bitsOf_length]
  have : 48 * (allN s).length ≤ 48 * s.size := Nat.mul_le_mul_left _ h2
  omega
theorem fixedN_size (s : ByteArray) : (fixedN s).size = ((fixedB s).length + 7) / 8 := by unfold fixedN; rw [txt_size, packB_length]
/-- a last block: what its head says, what its inside puts -/
theorem last_block {T : ByteArray} {Bg kind : Nat} {bs o : List Nat} (hk : kind < 4) (h : BitsAt T 0 (bitsOf false 1 1 ++ (bitsOf false kind 2 ++ bs)))
    (hb : blockR T Bg kind 3 [] = .ok () (3 + bs.length) o) : runR T Bg = .ok () (3 + bs.length) o := by
  have h1 := h.left
  have h2 := h.right.left
  rw [bitsOf_length] at h2
  unfold runR
  rw [If.allF, get_bits [] (by decide) h1, Rs.bind_ok, get_bits [] (by omega) h2, Rs.bind_ok, hb, Rs.bind_ok, if_neg (by decide)]
theorem fixed_run (s t : ByteArray) (Bg : Nat) (hB : s.size ≤ Bg) : runR (fixedN s ++ t) Bg = .ok () (fixedB s).length (nB (B s)) := by
  have h := two_at (fixedB s) (fixedB_facts s).2 t
  have e : (fixedB s).length = 3 + (pcsB fixL fixD (allN s)).length := by
    unfold fixedB
    simp only [List.length_append, bitsOf_length]
    omega
  rw [e]
  have h : BitsAt (fixedN s ++ t) 0 (fixedB s) := h
  generalize fixedN s ++ t = T at *
  unfold fixedB at h
  refine last_block (by decide) h ?_
  show codedF T Bg fixL fixD (8 * T.size - 3 + 1) 3 (nB []) = _
  have h3 := h.right.right
  simp only [bitsOf_length, Nat.zero_add] at h3
  have h3 : BitsAt T 3 (pcsB fixL fixD (allN s)) := h3
  obtain ⟨c1, c2⟩ := chk_zero (allN_chk s)
  have ex := allN_exp s
  have h31 := h3.1
  rw [coded_pcs T Bg fixL_bad fixD_bad (fixL_pos 256 (by decide)).1 (allN s) [] _ _ h3 (fix_use c1) c1 c2 (by rw [ex, B_len]; exact hB) (by omega), ex]
/-! ### blocks of kind 0 -/
def hdS (n : Nat) : List Nat := [n % 256, n / 256, 255 - n % 256, 255 - n / 256]
def stoF : Nat → List Nat → List Nat
  | 0, _ => []
  | g + 1, l => if l.length ≤ 65535 then (1 :: hdS l.length) ++ l else ((0 :: hdS 65535) ++ l.take 65535) ++ stoF g (l.drop 65535)
def storedB (s : ByteArray) : List Nat := stoF (s.size / 65535 + 1) (nB (B s))
def storedN (s : ByteArray) : ByteArray := txt (storedB s)
theorem stored_one (s : ByteArray) (h : s.size ≤ 65535) : storedB s = (1 :: hdS s.size) ++ nB (B s) := by
  unfold storedB
  rw [stoF, nB_len, B_len, if_pos h]
theorem nB_lt (o : List UInt8) : ∀ x ∈ nB o, x < 256 := fun x hx => by
  obtain ⟨y, _, rfl⟩ := List.mem_map.1 hx
  exact y.toNat_lt
theorem byteAt_app (L : List Nat) (t : ByteArray) (i x : Nat) (h : L[i]? = some x) (hx : x < 256) : byteAt (txt L ++ t) i = x := by
  have hi := (List.getElem?_eq_some_iff.1 h).1
  rw [← byteAt_txt L i x h hx]
  unfold byteAt
  rw [ByteArray.data_append, Array.toList_append, List.getD_eq_getElem?_getD, List.getElem?_append_left (by rw [Array.length_toList]; show i < (txt L).size; rw [txt_size]; exact hi), ← List.getD_eq_getElem?_getD]
theorem stored_run (s t : ByteArray) (Bg : Nat) (h : s.size ≤ 65535) (hB : s.size ≤ Bg) : runR (storedN s ++ t) Bg = .ok () (8 * (storedN s).size) (nB (B s)) := by
  have hz : (storedN s).size = 5 + s.size := by
    unfold storedN
    rw [txt_size, stored_one s h, List.length_append, nB_len, B_len]
    simp only [hdS, List.length_cons, List.length_nil]
  have hs : (storedN s ++ t).size = 5 + s.size + t.size := by rw [ByteArray.size_append, hz]
  have at_ : ∀ i x, ((1 :: hdS s.size) ++ nB (B s))[i]? = some x → byteAt (storedN s ++ t) i = x := fun i x hx => by
    unfold storedN
    rw [stored_one s h]
    refine byteAt_app _ t i x hx ?_
    rcases List.mem_append.1 (List.mem_of_getElem? hx) with hm | hm
    · simp only [hdS, List.mem_cons, List.not_mem_nil, or_false] at hm
      omega
    · exact nB_lt _ x hm
  have b0 := at_ 0 1 rfl
  have b1 := at_ 1 (s.size % 256) rfl
  have b2 := at_ 2 (s.size / 256) rfl
  have b3 := at_ 3 (255 - s.size % 256) rfl
  have b4 := at_ 4 (255 - s.size / 256) rfl
  have hbytes : ((List.range s.size).map fun i => byteAt (storedN s ++ t) (5 + i)) = nB (B s) := by
    apply List.ext_getElem?
    intro i
    rw [List.getElem?_map]
    by_cases hi : i < s.size
    · obtain ⟨x, hx⟩ : ∃ x, (nB (B s))[i]? = some x := ⟨_, List.getElem?_eq_getElem (by rw [nB_len, B_len]; exact hi)⟩
      rw [List.getElem?_range hi, Option.map_some, hx, at_ (5 + i) x (by rw [List.getElem?_append_right (by simp [hdS])]; simp only [hdS, List.length_cons, List.length_nil]; rw [show 5 + i - (0 + 1 + 1 + 1 + 1 + 1) = i by omega]; exact hx)]
    · rw [List.getElem?_eq_none (by simpa using hi), List.getElem?_eq_none (by rw [nB_len, B_len]; omega)]
      rfl
  rw [hz]
  generalize storedN s ++ t = T at *
  obtain ⟨g1, g2⟩ := head_bits T 0 (by rw [b0]; omega)
  have e1 : getR T 1 0 [] = .ok 1 1 [] := by unfold getR; rw [if_pos (by omega)]; rw [b0] at g1; exact congrArg (Rs.ok · 1 []) g1
  have e2 : getR T 2 1 [] = .ok 0 3 [] := by unfold getR; rw [if_pos (by omega)]; exact congrArg (Rs.ok · 3 []) g2
  have hgap : 3 + gap 3 = 8 * 1 := by decide
  have e3 : getR T 16 (3 + gap 3) [] = .ok s.size (8 * 3) [] := by
    unfold getR
    rw [hgap, if_pos (by omega), getv_two, b1, b2]
    congr 1
    omega
  have e4 : getR T 16 (8 * 3) [] = .ok (65535 - s.size) (8 * 5) [] := by
    unfold getR
    rw [if_pos (by omega), getv_two, b3, b4]
    congr 1
    omega
  unfold runR
  rw [If.allF, e1, Rs.bind_ok, e2, Rs.bind_ok]
  have e5 : blockR T Bg 0 3 [] = .ok () (8 * (5 + s.size)) (nB (B s)) := by
    show storedR T Bg 3 [] = _
    unfold storedR
    rw [e3, Rs.bind_ok, e4, Rs.bind_ok, if_pos rfl, storeL_bytes T Bg s.size 5 [] (by omega) (by simpa using hB), hbytes]
    rfl
  rw [e5, Rs.bind_ok, if_neg (by decide)]
end Go.Proofs.YtnapnaaejignaaaGreat.De
