/-
  zlib, plain: what Get and Salvage tell of what Put made. No program is in sight here.
-/
import Derived.Test.YtnapnaaejignaaaGreatZlA
namespace Go.Proofs.YtnapnaaejignaaaGreat.De
open Go.RowKit Bt Hu If Mt

theorem outOf_ok {a : Unit} {p : Nat} {o : List Nat} : outOf (Rs.ok a p o) = o := rfl
theorem tail2 (H X : ByteArray) (hH : H.size = 2) : tailB (H ++ X) 2 = X := by rw [← hH]; exact tail_app H X
theorem get_run (H s T : ByteArray) (b : Nat) (hH : H.size = 2) (hs : s.size ≤ 65535) (hb : s.size ≤ b) :
    getZ (H ++ (bestN s ++ T)) b = if frB (H ++ (bestN s ++ T)) = false then (txt [], 4) else if T.size < 4 then (txt [], 8) else if num4 T ≠ adlN (B s) then (txt [], 4) else (s, 0) := by
  obtain ⟨bits, h1, h2⟩ := best_run s hs
  have hr := h2 T b hb
  unfold getZ
  rw [if_neg (by omega), if_neg (by rw [ByteArray.size_append, hH]; omega), tail2 H _ hH, Int.toNat_natCast, hr]
  have hn : nOf (Rs.ok () bits (nB (B s))) = (bestN s).size := h1
  rw [hn, tail_app, ByteArray.size_append, Nat.add_sub_cancel_left, outOf_ok, txt_nB, show eOf (Rs.ok () bits (nB (B s))) = 0 from rfl, if_neg (by simp : ¬ (0 : Int) ≠ 0)]
theorem sal_run (H s T : ByteArray) (b : Nat) (hH : H.size = 2) (hs : s.size ≤ 65535) (hb : s.size ≤ b) (hf : frB (H ++ (bestN s ++ T)) = true) :
    salZ (H ++ (bestN s ++ T)) b = (s, decide (4 ≤ T.size ∧ num4 T = adlN (B s))) := by
  obtain ⟨bits, h1, h2⟩ := best_run s hs
  have hr := h2 T b hb
  have hg := get_run H s T b hH hs hb
  rw [hf, if_neg (by simp)] at hg
  unfold salZ salT
  rw [hf, if_pos rfl, tail2 H _ hH, Int.toNat_natCast, hr, outOf_ok, txt_nB, hg]
  by_cases h4 : T.size < 4
  · rw [if_pos h4, if_neg (by decide), if_neg (by omega), decide_eq_false (by omega)]
  · rw [if_neg h4]
    by_cases hn : num4 T = adlN (B s)
    · rw [if_neg (fun h => h hn : ¬ num4 T ≠ adlN (B s)), if_pos rfl, decide_eq_true ⟨by omega, hn⟩]
    · rw [if_pos (show num4 T ≠ adlN (B s) from hn), if_neg (by decide), if_neg (by omega), decide_eq_false (fun h => hn h.2)]
def headZ : ByteArray := txt [120, 156]
theorem headZ_size : headZ.size = 2 := by unfold headZ; rw [txt_size]; rfl
theorem fr_head (X : ByteArray) : frB (headZ ++ X) = true := by
  unfold frB
  rw [byteAt_left _ _ _ (by rw [headZ_size]; omega), byteAt_left _ _ _ (by rw [headZ_size]; omega)]
  refine decide_eq_true ⟨by rw [ByteArray.size_append, headZ_size]; omega, ?_⟩
  decide +kernel
def sumZ (s : ByteArray) : ByteArray := txt (be4 (adlN (B s)))
theorem sumZ_size (s : ByteArray) : (sumZ s).size = 4 := by unfold sumZ; rw [txt_size]; rfl
theorem adl_lt (l : List UInt8) : adlN l < 4294967296 := moreN_lt 1 l (by omega)
theorem sumZ_num (s t : ByteArray) : num4 (sumZ s ++ t) = adlN (B s) := be4_num _ (adl_lt _) t
theorem putZ_is (s t : ByteArray) : putZ s ++ t = headZ ++ (bestN s ++ (sumZ s ++ t)) := putZ_app s t
theorem putZ_is0 (s : ByteArray) : putZ s = headZ ++ (bestN s ++ sumZ s) := by
  unfold putZ headZ sumZ
  rw [ByteArray.append_assoc]
theorem putZ_size (s : ByteArray) : (putZ s).size = 6 + (bestN s).size := by
  rw [putZ_is0, ByteArray.size_append, ByteArray.size_append, headZ_size, sumZ_size]
  omega
theorem get_back (s t : ByteArray) (hs : s.size ≤ 65535) : getZ (putZ s ++ t) s.size = (s, 0) ∧ salZ (putZ s ++ t) s.size = (s, true) := by
  have h4 : ¬ (sumZ s ++ t).size < 4 := by rw [ByteArray.size_append, sumZ_size]; omega
  rw [putZ_is]
  refine ⟨?_, ?_⟩
  · rw [get_run _ _ _ _ headZ_size hs (Nat.le_refl _), fr_head, if_neg (by simp), if_neg h4, if_neg (by rw [sumZ_num]; simp)]
  · rw [sal_run _ _ _ _ headZ_size hs (Nat.le_refl _) (fr_head _), decide_eq_true ⟨by omega, sumZ_num s t⟩]
/-! ### cut -/
theorem ext_size (x : ByteArray) (k : Nat) (h : k ≤ x.size) : (x.extract 0 k).size = k := by
  simp
  omega
theorem ext_data (x : ByteArray) (k : Nat) : (x.extract 0 k).data.toList = x.data.toList.take k := by
  rw [ByteArray.data_extract, Array.toList_extract]
  simp [List.extract]
theorem ext_app (a t : ByteArray) (k : Nat) : (a ++ t).extract 0 k = if k ≤ a.size then a.extract 0 k else a ++ t.extract 0 (k - a.size) := by
  have ha : a.data.toList.length = a.size := by simp
  split
  · apply ByteArray.ext
    apply Array.ext'
    rw [ext_data, ext_data, ByteArray.data_append, Array.toList_append, List.take_append_of_le_length (by omega)]
  · apply ByteArray.ext
    apply Array.ext'
    rw [ext_data, ByteArray.data_append, Array.toList_append, ByteArray.data_append, Array.toList_append, ext_data, List.take_append, List.take_of_length_le (by omega), ha]
theorem cut_any (s : ByteArray) (k B : Nat) (h : k ≤ s.size) : Cut (s.extract 0 k) s B B := by
  have hs := ext_size s k h
  refine ⟨by omega, fun p hp => ?_, Nat.le_refl _⟩
  rw [hs] at hp
  unfold bit
  have hb : byteAt (s.extract 0 k) (p / 8) = byteAt s (p / 8) := by
    unfold byteAt
    rw [ext_data, List.getD_eq_getElem?_getD, List.getElem?_take, if_pos (by omega), ← List.getD_eq_getElem?_getD]
  rw [hb]
theorem run_fits {s : ByteArray} {b : Nat} {p : Nat} {o : List Nat} (h : runR s b = .ok () p o) : p ≤ 8 * s.size := allF_le _ _ _ h
structure CutZ (s c : ByteArray) (r : ByteArray × Int) (q : ByteArray × Bool) : Prop where
  more : r.2 = 8
  whole : q.2 = false
  first : 2 ≤ c.size → ∃ u, B s = B q.1 ++ u
theorem cut_get (s : ByteArray) (k : Nat) (hs : s.size ≤ 65535) (hk : k < (putZ s).size) :
    CutZ s ((putZ s).extract 0 k) (getZ ((putZ s).extract 0 k) s.size) (salZ ((putZ s).extract 0 k) s.size) := by
  have hz := ext_size (putZ s) k (by omega)
  have hps := putZ_size s
  by_cases h2 : k < 2
  · have hg : getZ ((putZ s).extract 0 k) s.size = (txt [], 8) := by
      unfold getZ
      rw [if_neg (by omega), if_pos (by omega)]
    rw [hg]
    refine ⟨rfl, ?_, fun h => by omega⟩
    unfold salZ
    rw [hg, if_neg (by decide)]
    split <;> rfl
  · have e1 : (putZ s).extract 0 k = headZ ++ (bestN s ++ sumZ s).extract 0 (k - 2) := by
      rw [putZ_is0, ext_app, headZ_size]
      by_cases h3 : k ≤ 2
      · obtain rfl : k = 2 := by omega
        rw [if_pos h3]
        apply ByteArray.ext
        apply Array.ext'
        rw [ByteArray.data_append, Array.toList_append, ext_data, ext_data, List.take_of_length_le (by have := headZ_size; simp at this ⊢; omega)]
        simp
      · rw [if_neg h3]
    rw [e1]
    rw [ext_app]
    by_cases h5 : k - 2 ≤ (bestN s).size
    · rw [if_pos h5]
      obtain ⟨bits, b1, b2⟩ := best_run s hs
      have hr := b2 ByteArray.empty s.size (Nat.le_refl _)
      rw [ByteArray.append_empty] at hr
      obtain ⟨Y, hY⟩ : ∃ Y, (bestN s).extract 0 (k - 2) = Y := ⟨_, rfl⟩
      have hYs : Y.size = k - 2 := by rw [← hY]; exact ext_size _ _ h5
      have hC : Cut Y (bestN s) s.size s.size := by rw [← hY]; exact cut_any _ _ _ h5
      rw [hY]
      by_cases h6 : k - 2 = (bestN s).size
      · have hYb : Y = bestN s := by
          rw [← hY, h6]
          apply ByteArray.ext
          apply Array.ext'
          rw [ext_data, List.take_of_length_le (by simp)]
        have hg := get_run headZ s ByteArray.empty s.size headZ_size hs (Nat.le_refl _)
        have hq := sal_run headZ s ByteArray.empty s.size headZ_size hs (Nat.le_refl _) (fr_head _)
        rw [fr_head, if_neg (by simp), if_pos (by decide)] at hg
        rw [ByteArray.append_empty] at hg hq
        rw [hYb, hg, hq]
        exact ⟨rfl, decide_eq_false (p := 4 ≤ ByteArray.empty.size ∧ num4 ByteArray.empty = adlN (B s)) (fun h => absurd h.1 (by decide)), fun _ => ⟨[], by simp⟩⟩
      · have hrun : ∃ o, runR Y s.size = .er 8 o ∧ o <+: nB (B s) := by
          rcases runR_c hC with h1 | ⟨x, o, hx, h1, h2⟩
          · rw [hr] at h1
            have := run_fits h1
            omega
          · rw [hr] at h2
            rcases hx with ⟨_, hx⟩ | ⟨rfl, _⟩
            · exact absurd hx (Nat.lt_irrefl _)
            · exact ⟨o, h1, h2⟩
        obtain ⟨o, ho, hpre⟩ := hrun
        have hg : getZ (headZ ++ Y) s.size = (txt [], 8) := by
          unfold getZ
          rw [if_neg (by omega), if_neg (by rw [ByteArray.size_append, headZ_size]; omega), fr_head, if_neg (by simp), tail2 _ _ headZ_size, Int.toNat_natCast, ho, show eOf (Rs.er 8 o) = 8 from rfl, if_pos (show (8 : Int) ≠ 0 by decide)]
        have hq : salZ (headZ ++ Y) s.size = (txt o, false) := by
          unfold salZ salT
          rw [hg, if_neg (by decide), if_neg (by omega), fr_head, if_pos rfl, tail2 _ _ headZ_size, Int.toNat_natCast, ho]
          rfl
        rw [hg, hq]
        refine ⟨rfl, rfl, fun _ => ?_⟩
        obtain ⟨u, hu⟩ := hpre
        have hB : B (txt o) = (B s).take o.length := by
          have h1 : o = (nB (B s)).take o.length := by rw [← hu, List.take_left]
          have h2 : B (txt (nB (B s))) = B s := by rw [txt_nB]
          have h3 : ∀ l : List Nat, B (txt l) = l.map UInt8.ofNat := fun l => by simp [B, txt]
          rw [h3] at h2 ⊢
          conv => lhs; rw [h1]
          rw [List.map_take, h2]
        exact ⟨(B s).drop o.length, by rw [hB, List.take_append_drop]⟩
    · rw [if_neg h5]
      obtain ⟨T, hT⟩ : ∃ T, (sumZ s).extract 0 (k - 2 - (bestN s).size) = T := ⟨_, rfl⟩
      have hTs : T.size < 4 := by rw [← hT, ext_size _ _ (by rw [sumZ_size]; omega)]; omega
      rw [hT]
      have hg := get_run headZ s T s.size headZ_size hs (Nat.le_refl _)
      have hq := sal_run headZ s T s.size headZ_size hs (Nat.le_refl _) (fr_head _)
      rw [fr_head, if_neg (by simp), if_pos hTs] at hg
      rw [hg, hq]
      exact ⟨rfl, decide_eq_false (p := 4 ≤ T.size ∧ num4 T = adlN (B s)) (fun h => by have := h.1; omega), fun _ => ⟨[], by simp⟩⟩
/-! ### less budget -/
theorem low_get (s : ByteArray) (b : Nat) (hs : s.size ≤ 65535) (hb : b < s.size) :
    getZ (putZ s) b = (txt [], 3) ∧ salZ (putZ s) b = (s.extract 0 b, false) := by
  obtain ⟨bits, b1, b2⟩ := best_run s hs
  have hr := b2 (sumZ s) s.size (Nat.le_refl _)
  obtain ⟨X, hX⟩ : ∃ X, bestN s ++ sumZ s = X := ⟨_, rfl⟩
  rw [hX] at hr
  have hl : (nB (B s)).length = s.size := by rw [nB_len, B_len]
  have key : eOf (runR X b) = 3 ∧ outOf (runR X b) = (nB (B s)).take b := by
    rcases low_same (s := X) (low := b) (high := s.size) (by omega) with h | ⟨h1, h2, _⟩
    · have hg := (runR_g (s := X) (B := b)).1
      rw [h, hr] at hg
      have hg : (nB (B s)).length ≤ b := hg
      omega
    · refine ⟨h1, ?_⟩
      have h3 := low_full h1
      rw [hr] at h2
      obtain ⟨u, hu⟩ := h2
      have hu : outOf (runR X b) ++ u = nB (B s) := hu
      obtain ⟨O, hO⟩ : ∃ O, outOf (runR X b) = O := ⟨_, rfl⟩
      rw [hO] at hu h3 ⊢
      rw [← hu, ← h3, List.take_left]
  have hg : getZ (headZ ++ X) b = (txt [], 3) := by
    unfold getZ
    rw [if_neg (by omega), if_neg (by rw [ByteArray.size_append, headZ_size]; omega), fr_head, if_neg (by simp), tail2 _ _ headZ_size, Int.toNat_natCast, key.1, if_pos (by decide)]
  rw [putZ_is0, hX]
  refine ⟨hg, ?_⟩
  unfold salZ salT
  rw [hg, if_neg (by decide), if_neg (by omega), fr_head, if_pos rfl, tail2 _ _ headZ_size, Int.toNat_natCast, key.2]
  congr 1
  apply ByteArray.ext
  apply Array.ext'
  rw [ext_data]
  have h3 : ∀ l : List Nat, (txt l).data.toList = l.map UInt8.ofNat := fun l => by simp [txt]
  rw [h3, List.map_take]
  congr 1
  rw [← h3, txt_nB]
end Go.Proofs.YtnapnaaejignaaaGreat.De
