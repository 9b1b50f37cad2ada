/-
  Plain: what is read of the rows that were put.
-/
import Derived.Test.YtkaimeogebgofaaDoorXsK
namespace Go.Proofs.YtkaimeogebgofaaDoor.Xs
open Go.RowKit
open Go.Proofs.YtkaimeogebgofaaDoor.Tr

/-- an entry that a row holds -/
def FitE (x : En) : Prop := mayN x = true ∧ x.a ≤ 4294967295
theorem u8n_nat {v : Int} (h0 : 0 ≤ v) (h : v < 256) : ((u8n v).toNat : Int) = v := by
  unfold u8n
  have e : (UInt8.ofNat v.toNat).toNat = v.toNat % 256 := rfl
  rw [e]
  omega
theorem be4 (a b c d : UInt8) : ((beN [a, b, c, d] : Nat) : Int) = (((a.toNat : Int) * 256 + b.toNat) * 256 + c.toNat) * 256 + d.toNat := by
  have e : beN [a, b, c, d] = (((0 * 256 + a.toNat) * 256 + b.toNat) * 256 + c.toNat) * 256 + d.toNat := rfl
  rw [e]
  omega
theorem be2 (a b : UInt8) : ((beN [a, b] : Nat) : Int) = (a.toNat : Int) * 256 + b.toNat := by
  show (((0 * 256 + a.toNat) * 256 + b.toNat : Nat) : Int) = _
  omega
theorem be1 (a : UInt8) : ((beN [a] : Nat) : Int) = (a.toNat : Int) := by
  show ((0 * 256 + a.toNat : Nat) : Int) = _
  omega
theorem rowE_rowU {x : En} (h : FitE x) : rowE (rowU x) x.num = x := by
  obtain ⟨h1, h2⟩ := h
  obtain ⟨m1, m2, m3, m4, m5, m6, m7, m8, m9⟩ := may_facts h1
  have e0 : ((beN (cutB (rowU x) 0 1) : Nat) : Int) = x.kind := by
    show ((beN [u8n (x.kind % 256)] : Nat) : Int) = _
    rw [be1, u8n_nat (by omega) (by omega)]
    omega
  have e1 : ((beN (cutB (rowU x) 1 4) : Nat) : Int) = x.a := by
    show ((beN [u8n (x.a / 16777216 % 256), u8n (x.a / 65536 % 256), u8n (x.a / 256 % 256), u8n (x.a % 256)] : Nat) : Int) = _
    rw [be4, u8n_nat (by omega) (by omega), u8n_nat (by omega) (by omega), u8n_nat (by omega) (by omega), u8n_nat (by omega) (by omega)]
    omega
  have e2 : ((beN (cutB (rowU x) 5 2) : Nat) : Int) = x.b := by
    show ((beN [u8n (x.b / 256 % 256), u8n (x.b % 256)] : Nat) : Int) = _
    rw [be2, u8n_nat (by omega) (by omega), u8n_nat (by omega) (by omega)]
    omega
  rw [rowE, e0, e1, e2]
  by_cases hk : x.kind = 0
  · rw [if_pos hk]
    obtain ⟨z1, z2⟩ := m9 hk
    cases x
    simp_all
  · rw [if_neg hk]
theorem cut_rows : ∀ (l : List En) (i : Nat) (h : i < l.length), cutB (rowsU l) (7 * i) 7 = rowU (l[i]'h)
  | [], _, h => by simp at h
  | x :: r, 0, _ => by
    show (rowU x ++ rowsU r).take 7 = rowU x
    exact List.take_left' rfl
  | x :: r, i + 1, h => by
    have ih := cut_rows r i (by simpa using h)
    show ((rowU x ++ rowsU r).drop (7 * (i + 1))).take 7 = rowU (r[i]'(by simpa using h))
    rw [show 7 * (i + 1) = (rowU x).length + 7 * i by show _ = 7 + 7 * i; omega, List.drop_length_add_append]
    exact ih
theorem rdE_rows (L : List En) (h : ∀ x ∈ L, FitE x) : rdE (rowsU L) (L.map (·.num)) = L := by
  refine List.ext_getElem (by rw [rdE_len, List.length_map]) (fun i h1 h2 => ?_)
  have e : (rdE (rowsU L) (L.map (·.num)))[i]'h1 = rowE (cutB (rowsU L) (7 * i) 7) ((L.map (·.num)).getD i 0) := by
    simp only [rdE, List.getElem_map, List.getElem_range]
  rw [e, cut_rows L i h2, List.getD_eq_getElem?_getD, List.getElem?_map, List.getElem?_eq_getElem h2]
  exact rowE_rowU (h _ (List.getElem_mem h2))
theorem mem_allF : ∀ (g i : Nat) (l : List En) (y : En), y ∈ allF g i l → y ∈ l ∨ ∃ k, i ≤ k ∧ k < i + g ∧ y = freeE k
  | 0, _, _, _, h => by cases h
  | g + 1, i, [], y, h => by
    rcases List.mem_cons.1 h with rfl | h
    · exact .inr ⟨i, by omega, by omega, rfl⟩
    · rcases mem_allF g (i + 1) [] y h with h | ⟨k, h1, h2, h3⟩
      · exact .inl h
      · exact .inr ⟨k, by omega, by omega, h3⟩
  | g + 1, i, x :: r, y, h => by
    rw [allF] at h
    split at h
    · rcases List.mem_cons.1 h with rfl | h
      · exact .inl (by simp)
      · rcases mem_allF g (i + 1) r y h with h | ⟨k, h1, h2, h3⟩
        · exact .inl (List.mem_cons_of_mem _ h)
        · exact .inr ⟨k, by omega, by omega, h3⟩
    · rcases List.mem_cons.1 h with rfl | h
      · exact .inr ⟨i, by omega, by omega, rfl⟩
      · rcases mem_allF g (i + 1) (x :: r) y h with h | ⟨k, h1, h2, h3⟩
        · exact .inl h
        · exact .inr ⟨k, by omega, by omega, h3⟩
theorem fit_free (k : Nat) (h : k ≤ 8388607) : FitE (freeE k) := by
  refine ⟨?_, by show (0 : Int) ≤ _; omega⟩
  simp [mayN, freeE]
  omega
theorem fit_allF {N : Nat} {l : List En} (hN : N ≤ 8388608) (hl : ∀ x ∈ l, FitE x) : ∀ y ∈ allF N 0 l, FitE y := fun y hy => by
  rcases mem_allF N 0 l y hy with h | ⟨k, -, h2, rfl⟩
  · exact hl y h
  · exact fit_free k (by omega)
theorem num_allF (N : Nat) (l : List En) : (allF N 0 l).map (·.num) = rangeI 0 N := by
  rw [allF_num, rangeI, List.range_eq_range']
  exact List.map_congr_left (fun i _ => by omega)
theorem up_allF (N : Nat) (l : List En) : (allF N 0 l).Pairwise fun x y => x.num < y.num := by
  have h : ((allF N 0 l).map (·.num)).Pairwise (· < ·) := by
    rw [allF_num, List.pairwise_map]
    exact (List.pairwise_lt_range' (s := 0) (n := N)).imp (fun h => by omega)
  exact List.pairwise_map.1 h
theorem sec_of : ∀ (L : List En) (p : Option Int), (∀ x ∈ L, mayN x = true) → (L.Pairwise fun x y => x.num < y.num) → (∀ x ∈ L, belowI p x.num = true) → secN p L = true
  | [], _, _, _, _ => rfl
  | x :: r, p, h1, h2, h3 => by
    rw [secN, h1 x (by simp), h3 x (by simp)]
    obtain ⟨k1, k2⟩ := List.pairwise_cons.1 h2
    rw [sec_of r (some x.num) (fun y hy => h1 y (List.mem_cons_of_mem _ hy)) k2 (fun y hy => decide_eq_true (k1 y hy))]
    rfl
theorem sec_allF {N : Nat} {l : List En} (hN : N ≤ 8388608) (hl : ∀ x ∈ l, FitE x) : secN none (allF N 0 l) = true :=
  sec_of _ none (fun x hx => (fit_allF hN hl x hx).1) (up_allF N l) (fun _ _ => rfl)
theorem nums_all (N : Nat) : numsF N N [0, (N : Int)] [] = some (rangeI 0 N) := by
  rw [numsF, Int.toNat_natCast, if_neg, numsF_nil, List.nil_append, if_pos (by rw [rangeI_len])]
  intro h
  rcases h with h | h | h | h | h
  · omega
  · omega
  · omega
  · simp at h
  · simp at h
theorem rowsU_append (a b : List En) : rowsU (a ++ b) = rowsU a ++ rowsU b := by unfold rowsU; rw [List.flatMap_append]
theorem rowsU_take (l : List En) (k : Nat) (h : k ≤ l.length) : (rowsU l).take (7 * k) = rowsU (l.take k) ∧ (rowsU l).drop (7 * k) = rowsU (l.drop k) := by
  have e : rowsU l = rowsU (l.take k) ++ rowsU (l.drop k) := by rw [← rowsU_append, List.take_append_drop]
  have hl : (rowsU (l.take k)).length = 7 * k := by rw [rowsU_len, List.length_take]; omega
  rw [e]
  exact ⟨List.take_left' hl, List.drop_left' hl⟩
theorem rangeI_split (k N : Nat) (h : k ≤ N) : (rangeI 0 N).drop k = rangeI k (N - k) ∧ (rangeI 0 N).take k = rangeI 0 k := by
  constructor
  · refine List.ext_getElem (by rw [List.length_drop, rangeI_len, rangeI_len]) (fun i h1 h2 => ?_)
    simp [rangeI]
  · refine List.ext_getElem (by rw [List.length_take, rangeI_len, rangeI_len]; omega) (fun i h1 h2 => ?_)
    simp [rangeI]
theorem nums_cut (k N : Nat) (h : k ≤ N) : numsF N N [(k : Int), ((N - k : Nat) : Int), 0, (k : Int)] [] = some (rangeI k (N - k) ++ rangeI 0 k) := by
  rw [numsF, Int.toNat_natCast, if_neg, numsF, Int.toNat_natCast, if_neg, numsF_nil, List.nil_append, if_pos]
  · rw [List.length_append, rangeI_len, rangeI_len]; omega
  · intro h
    rcases h with h | h | h | h | h
    · omega
    · omega
    · omega
    · rw [List.nil_append, rangeI_len] at h; omega
    · rw [List.any_eq_true] at h
      obtain ⟨y, h1, h2⟩ := h
      have h2 := of_decide_eq_true h2
      rw [List.nil_append] at h2
      have := mem_rangeI h1
      have := mem_rangeI h2
      omega
  · intro h
    rcases h with h | h | h | h | h
    · omega
    · omega
    · omega
    · simp at h; omega
    · simp at h
end Go.Proofs.YtkaimeogebgofaaDoor.Xs
