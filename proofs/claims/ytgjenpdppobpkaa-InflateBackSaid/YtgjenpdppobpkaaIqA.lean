/-
  inflate, plain: steps spelt by the fixed codes are unpacked.
-/
import Derived.Test.YtgjenpdppobpkaaInT
import Derived.Test.YtgjenpdppobpkaaIoC
import Derived.Test.YtgjenpdppobpkaaIpE
import Derived.Test.YtgjenpdppobpkaaBitsVal
namespace Go.Proofs.Ytgjenpdppobpkaa.If
open Go.RowKit Bt Hu

/-- the bits bs stand at p -/
def BitsAt (s : ByteArray) (p : Nat) (bs : List Nat) : Prop := p + bs.length ≤ 8 * s.size ∧ ∀ i, i < bs.length → bit s false (p + i) = bs.getD i 0
theorem BitsAt.left {s : ByteArray} {p : Nat} {a b : List Nat} (h : BitsAt s p (a ++ b)) : BitsAt s p a := by
  obtain ⟨h1, h2⟩ := h
  rw [List.length_append] at h1
  refine ⟨by omega, fun i hi => ?_⟩
  rw [h2 i (by rw [List.length_append]; omega), List.getD_eq_getElem?_getD, List.getElem?_append_left hi, List.getD_eq_getElem?_getD]
theorem BitsAt.right {s : ByteArray} {p : Nat} {a b : List Nat} (h : BitsAt s p (a ++ b)) : BitsAt s (p + a.length) b := by
  obtain ⟨h1, h2⟩ := h
  rw [List.length_append] at h1
  refine ⟨by omega, fun i hi => ?_⟩
  rw [Nat.add_assoc, h2 (a.length + i) (by rw [List.length_append]; omega), List.getD_eq_getElem?_getD, List.getElem?_append_right (by omega), Nat.add_sub_cancel_left, List.getD_eq_getElem?_getD]
theorem get_bits {s : ByteArray} {p v n : Nat} (out : List Nat) (hv : v < 2 ^ n) (h : BitsAt s p (bitsOf false v n)) : getR s n p out = .ok v (p + n) out := by
  obtain ⟨h1, h2⟩ := h
  rw [bitsOf_length] at h1 h2
  unfold getR
  rw [if_pos h1]
  congr 1
  rw [← Bv.valOf_getv s false p (fun i => (bitsOf false v n).getD i 0) n (fun i hi => (h2 i hi).symm)]
  exact Bv.valOf_bitsOf false v n hv
def cbD (D : List Int) (s : Nat) : List Nat := cbits ((codesN D).getD s 0) (D.getD s 0).toNat
theorem cbits_at8 (c : Nat) : ∀ (n j : Nat), j < n → (cbits c n)[j]? = some (c / 2 ^ (n - 1 - j) % 2)
  | 0, j, h => by omega
  | n + 1, 0, _ => by rw [cbits, List.getElem?_cons_zero, Nat.add_sub_cancel, Nat.sub_zero]
  | n + 1, j + 1, h => by rw [cbits, List.getElem?_cons_succ, cbits_at8 c n j (by omega), show n + 1 - 1 - (j + 1) = n - 1 - j by omega]
theorem cbits_bin8 (c : Nat) : ∀ n, Bin (cbits c n)
  | 0 => fun x hx => by cases hx
  | n + 1 => fun x hx => by
    rw [cbits] at hx
    rcases List.mem_cons.1 hx with rfl | hx
    · omega
    · exact cbits_bin8 c n x hx
theorem sym_bits {s : ByteArray} {D : List Int} {p sy : Nat} (out : List Nat) (hb : badL D = false) (hk : kra D ≤ 32768) (hD : 0 < D.getD sy 0) (h : BitsAt s p (cbD D sy)) : symR s D p out = .ok sy (p + (cbD D sy).length) out := by
  have hsl : sy < D.length := by
    refine Nat.lt_of_not_le fun h => ?_
    rw [List.getD_eq_getElem?_getD, List.getElem?_eq_none h] at hD
    simp at hD
  obtain ⟨n, hn⟩ : ∃ n : Nat, D.getD sy 0 = n := ⟨(D.getD sy 0).toNat, by omega⟩
  have hDs : D[sy]? = some (n : Int) := by rw [← hn, List.getD_eq_getElem?_getD, List.getElem?_eq_getElem hsl]; rfl
  have hn15 := (bad_false hb).2 _ (List.mem_of_getElem? hDs)
  obtain ⟨c, hc⟩ : ∃ c, (codesN D)[sy]? = some c := ⟨_, List.getElem?_eq_getElem (by rw [codesN, codesF_len]; exact hsl)⟩
  have e2 : cbD D sy = cbits c n := by
    unfold cbD
    rw [List.getD_eq_getElem?_getD, hc, hn, Int.toNat_natCast]
    rfl
  rw [e2] at h ⊢
  obtain ⟨h1, h2⟩ := h
  rw [cbits_len] at h1 h2 ⊢
  have hr := read_code D (bit s false) (8 * s.size) sy n c p hDs (by omega) (by omega) hc h1 hk (fun j hj => by
    rw [h2 j hj, List.getD_eq_getElem?_getD, cbits_at8 c n j hj]
    rfl)
  unfold symR
  rw [hr]
  rfl
/-! ### steps -/
abbrev Sx := UInt8 × Int × Int
def isM (o : Nat) (x : Sx) : Bool := decide (3 ≤ x.2.1 ∧ x.2.1 ≤ 258 ∧ 1 ≤ x.2.2 ∧ x.2.2 ≤ (o : Int) ∧ x.2.2 ≤ 32768)
def cpL (back : Nat) : Nat → List Nat → List Nat
  | 0, o => o
  | n + 1, o => cpL back n (o ++ [o.getD (o.length - back) 0])
def lsN (n : Nat) : Nat := lastF lenB n 257 28
def dsN (b : Nat) : Nat := lastF dstB b 0 29
def stO (o : List Nat) (x : Sx) : List Nat := if isM o.length x = true then cpL x.2.2.toNat x.2.1.toNat o else o ++ [x.1.toNat]
def stM (n b : Nat) : List Nat := cbD fixL (lsN n) ++ (bitsOf false (n - lenB (lsN n)) (lenX (lsN n)) ++ (cbD fixD (dsN b) ++ bitsOf false (b - dstB (dsN b)) (dstX (dsN b))))
def stpB (o : List Nat) (x : Sx) : List Nat := if isM o.length x = true then stM x.2.1.toNat x.2.2.toNat else cbD fixL x.1.toNat
def allO : List Sx → List Nat → List Nat
  | [], o => o
  | x :: l, o => allO l (stO o x)
def allS : List Sx → List Nat → List Nat
  | [], _ => cbD fixL 256
  | x :: l, o => stpB o x ++ allS l (stO o x)
theorem cpL_len (back : Nat) : ∀ (n : Nat) (o : List Nat), (cpL back n o).length = o.length + n
  | 0, o => rfl
  | n + 1, o => by rw [cpL, cpL_len back n, List.length_append, List.length_singleton]; omega
theorem stO_len (o : List Nat) (x : Sx) : o.length < (stO o x).length ∧ (stO o x).length ≤ o.length + 258 := by
  unfold stO
  by_cases h : isM o.length x = true
  · rw [if_pos h, cpL_len]
    have := of_decide_eq_true h
    omega
  · rw [if_neg h, List.length_append, List.length_singleton]
    omega
theorem allO_len : ∀ (l : List Sx) (o : List Nat), o.length ≤ (allO l o).length ∧ (allO l o).length ≤ o.length + 258 * l.length
  | [], o => ⟨Nat.le_refl _, Nat.le_refl _⟩
  | x :: l, o => by
    obtain ⟨h1, h2⟩ := allO_len l (stO o x)
    obtain ⟨h3, h4⟩ := stO_len o x
    rw [allO, List.length_cons]
    omega
theorem fixL_pos (s : Nat) (h : s < 288) : 0 < fixL.getD s 0 ∧ fixL.getD s 0 ≤ 9 := by
  rw [List.getD_eq_getElem?_getD, fix_at8 s h, Option.getD_some]
  split
  · omega
  · split
    · omega
    · split <;> omega
theorem fixD_pos (s : Nat) (h : s < 30) : 0 < fixD.getD s 0 ∧ fixD.getD s 0 ≤ 9 := by
  unfold fixD
  rw [List.getD_eq_getElem?_getD, List.getElem?_replicate, if_pos h, Option.getD_some]
  omega
theorem fixL_bad : badL fixL = false ∧ kra fixL ≤ 32768 := by decide +kernel
theorem fixD_bad : badL fixD = false ∧ kra fixD ≤ 32768 := by decide +kernel
theorem fixL_codes : ∀ x ∈ codesN fixL, x < 65536 := by decide +kernel
theorem fixD_codes : ∀ x ∈ codesN fixD, x < 65536 := by decide +kernel
theorem cbL_len (s : Nat) (h : s < 288) : 1 ≤ (cbD fixL s).length ∧ (cbD fixL s).length ≤ 9 := by
  have := fixL_pos s h
  unfold cbD
  rw [cbits_len]
  omega
theorem cbD_len (s : Nat) (h : s < 30) : 1 ≤ (cbD fixD s).length ∧ (cbD fixD s).length ≤ 9 := by
  have := fixD_pos s h
  unfold cbD
  rw [cbits_len]
  omega
theorem cbD_bin (D : List Int) (s : Nat) : Bin (cbD D s) := cbits_bin8 _ _
theorem ls_facts (n : Nat) (h1 : 3 ≤ n) (h2 : n ≤ 258) : 257 ≤ lsN n ∧ lsN n ≤ 285 ∧ lenB (lsN n) ≤ n ∧ n - lenB (lsN n) < 2 ^ lenX (lsN n) ∧ lenX (lsN n) ≤ 5 := by
  obtain ⟨a, b, c, d, e⟩ := len_next n (by omega) h1
  unfold lsN
  exact ⟨a, b, c, by omega, e.1⟩
theorem ds_facts (n : Nat) (h1 : 1 ≤ n) (h2 : n ≤ 32768) : dsN n ≤ 29 ∧ dstB (dsN n) ≤ n ∧ n - dstB (dsN n) < 2 ^ dstX (dsN n) ∧ dstX (dsN n) ≤ 13 := by
  obtain ⟨a, b, c, d⟩ := dst_of n h1 h2
  unfold dsN
  exact ⟨a, b, by omega, d⟩
theorem Bin.app8 {a b : List Nat} (h : Bin a) (h' : Bin b) : Bin (a ++ b) := fun x hx => (List.mem_append.1 hx).elim (h x) (h' x)
theorem stpB_facts (o : List Nat) (x : Sx) : (stpB o x).length ≤ 36 ∧ Bin (stpB o x) := by
  unfold stpB
  by_cases h : isM o.length x = true
  · rw [if_pos h]
    have hm := of_decide_eq_true h
    obtain ⟨a1, a2, a3, a4, a5⟩ := ls_facts x.2.1.toNat (by omega) (by omega)
    obtain ⟨b1, b2, b3, b4⟩ := ds_facts x.2.2.toNat (by omega) (by omega)
    have c1 := cbL_len (lsN x.2.1.toNat) (by omega)
    have c2 := cbD_len (dsN x.2.2.toNat) (by omega)
    unfold stM
    refine ⟨?_, Bin.app8 (cbD_bin _ _) (Bin.app8 (bitsOf_bin _ _ _) (Bin.app8 (cbD_bin _ _) (bitsOf_bin _ _ _)))⟩
    rw [List.length_append, List.length_append, List.length_append, bitsOf_length, bitsOf_length]
    omega
  · rw [if_neg h]
    have hb := x.1.toNat_lt
    exact ⟨by have := cbL_len x.1.toNat (by omega); omega, cbD_bin _ _⟩
theorem allS_facts : ∀ (l : List Sx) (o : List Nat), (allS l o).length ≤ 36 * l.length + 9 ∧ Bin (allS l o)
  | [], o => ⟨by have := cbL_len 256 (by omega); rw [allS]; simp; omega, cbD_bin _ _⟩
  | x :: l, o => by
    obtain ⟨h1, h2⟩ := allS_facts l (stO o x)
    obtain ⟨h3, h4⟩ := stpB_facts o x
    rw [allS, List.length_append, List.length_cons]
    exact ⟨by omega, Bin.app8 h4 h2⟩
theorem copy_ok {B : Nat} (back p : Nat) : ∀ (n : Nat) (o : List Nat), o.length + n ≤ B → copyL B back n p o = .ok () p (cpL back n o)
  | 0, o, _ => rfl
  | n + 1, o, h => by
    rw [copyL, cpL]
    unfold putR
    rw [if_neg (by omega), Rs.bind_ok]
    exact copy_ok back p n _ (by rw [List.length_append, List.length_singleton]; omega)
theorem coded_steps (s : ByteArray) (B : Nat) : ∀ (l : List Sx) (o : List Nat) (p g : Nat), BitsAt s p (allS l o) → (allO l o).length ≤ B → 8 * s.size + 1 ≤ p + g → codedF s B fixL fixD g p o = .ok () (p + (allS l o).length) (allO l o)
  | [], o, p, g, hb, hB, hg => by
    rw [allS] at hb ⊢
    have h1 := hb.1
    have h2 := cbL_len 256 (by omega)
    obtain ⟨g, rfl⟩ : ∃ k, g = k + 1 := ⟨g - 1, by omega⟩
    rw [codedF, sym_bits o fixL_bad.1 fixL_bad.2 (fixL_pos 256 (by omega)).1 hb, Rs.bind_ok, if_neg (by omega), if_pos rfl]
    rfl
  | x :: l, o, p, g, hb, hB, hg => by
    rw [allS] at hb ⊢
    rw [allO] at hB ⊢
    have hl := (allO_len l (stO o x)).1
    have hb1 := hb.left
    have hb2 := hb.right
    have hbig := hb2.1
    by_cases hm : isM o.length x = true
    · have hm' := of_decide_eq_true hm
      have eO : stO o x = cpL x.2.2.toNat x.2.1.toNat o := if_pos hm
      have eB : stpB o x = stM x.2.1.toNat x.2.2.toNat := if_pos hm
      obtain ⟨n, hn⟩ : ∃ n, x.2.1.toNat = n := ⟨_, rfl⟩
      obtain ⟨b, hbk⟩ : ∃ b, x.2.2.toNat = b := ⟨_, rfl⟩
      rw [hn, hbk] at eO eB
      obtain ⟨a1, a2, a3, a4, a5⟩ := ls_facts n (by omega) (by omega)
      obtain ⟨b1, b2, b3, b4⟩ := ds_facts b (by omega) (by omega)
      rw [eB] at hb1 hb2 hbig ⊢
      rw [eO] at hl hb2 hbig hB ⊢
      rw [cpL_len] at hl
      unfold stM at hb1 hb2 hbig ⊢
      have c1 := cbL_len (lsN n) (by omega)
      obtain ⟨g, rfl⟩ : ∃ k, g = k + 1 := ⟨g - 1, by rw [List.length_append] at hbig; omega⟩
      rw [codedF, sym_bits o fixL_bad.1 fixL_bad.2 (fixL_pos (lsN n) (by omega)).1 hb1.left, Rs.bind_ok, if_neg (by omega), if_neg (by omega), if_pos a2]
      have e1 := hb1.right.left
      have e2 := hb1.right.right.left
      have e3 := hb1.right.right.right
      rw [bitsOf_length] at e2 e3
      unfold againR
      rw [get_bits o a4 e1, Rs.bind_ok, sym_bits o fixD_bad.1 fixD_bad.2 (fixD_pos (dsN b) (by omega)).1 e2, Rs.bind_ok, if_pos b1, get_bits o b3 e3, Rs.bind_ok]
      rw [show dstB (dsN b) + (b - dstB (dsN b)) = b by omega, show lenB (lsN n) + (n - lenB (lsN n)) = n by omega, if_pos (by omega), copy_ok b _ n o (by omega), Rs.bind_ok]
      have hq : p + (cbD fixL (lsN n)).length + lenX (lsN n) + (cbD fixD (dsN b)).length + dstX (dsN b) = p + (cbD fixL (lsN n) ++ (bitsOf false (n - lenB (lsN n)) (lenX (lsN n)) ++ (cbD fixD (dsN b) ++ bitsOf false (b - dstB (dsN b)) (dstX (dsN b))))).length := by
        rw [List.length_append, List.length_append, List.length_append, bitsOf_length, bitsOf_length]
        omega
      rw [hq]
      rw [coded_steps s B l _ _ g hb2 hB (by rw [List.length_append]; omega)]
      congr 1
      simp only [List.length_append]
      omega
    · have eO : stO o x = o ++ [x.1.toNat] := if_neg hm
      have eB : stpB o x = cbD fixL x.1.toNat := if_neg hm
      have hx := x.1.toNat_lt
      rw [eB] at hb1 hb2 hbig ⊢
      rw [eO] at hl hb2 hbig hB ⊢
      rw [List.length_append, List.length_singleton] at hl
      have c1 := cbL_len x.1.toNat (by omega)
      obtain ⟨g, rfl⟩ : ∃ k, g = k + 1 := ⟨g - 1, by omega⟩
      rw [codedF, sym_bits o fixL_bad.1 fixL_bad.2 (fixL_pos x.1.toNat (by omega)).1 hb1, Rs.bind_ok, if_pos hx]
      unfold putR
      rw [if_neg (by omega), Rs.bind_ok, coded_steps s B l _ _ g hb2 hB (by omega), List.length_append, Nat.add_assoc]
/-- a block of fixed codes -/
def blkS (last : Nat) (l : List Sx) (o : List Nat) : List Nat := bitsOf false last 1 ++ (bitsOf false 1 2 ++ allS l o)
theorem one_spelt {s : ByteArray} {B p last : Nat} {l : List Sx} {o : List Nat} (hl : last ≤ 1) (h : BitsAt s p (blkS last l o)) (hB : (allO l o).length ≤ B) (g : Nat) :
    allF s B (g + 1) p o = if last = 0 then allF s B g (p + (blkS last l o).length) (allO l o) else .ok () (p + (blkS last l o).length) (allO l o) := by
  have h1 := h.left
  have h2 := h.right.left
  have h3 := h.right.right
  rw [bitsOf_length] at h2 h3
  rw [bitsOf_length] at h3
  rw [allF, get_bits o (by omega) h1, Rs.bind_ok, get_bits o (by decide) h2, Rs.bind_ok]
  have hq : p + 1 + 2 + (allS l o).length = p + (blkS last l o).length := by
    unfold blkS
    rw [List.length_append, List.length_append, bitsOf_length, bitsOf_length]
    omega
  have e : blockR s B 1 (p + 1 + 2) o = .ok () (p + (blkS last l o).length) (allO l o) := by
    show codedF s B fixL fixD (8 * s.size - (p + 1 + 2) + 1) (p + 1 + 2) o = _
    have hb := h3.1
    rw [coded_steps s B l o (p + 1 + 2) _ h3 hB (by omega), hq]
  rw [e, Rs.bind_ok]
def twoS (l1 l2 : List Sx) : List Nat := blkS 0 l1 [] ++ blkS 1 l2 (allO l1 [])
theorem twoS_facts (l1 l2 : List Sx) : (twoS l1 l2).length ≤ 36 * (l1.length + l2.length) + 24 ∧ Bin (twoS l1 l2) := by
  obtain ⟨h1, h2⟩ := allS_facts l1 []
  obtain ⟨h3, h4⟩ := allS_facts l2 (allO l1 [])
  unfold twoS blkS
  refine ⟨?_, Bin.app8 (Bin.app8 (bitsOf_bin _ _ _) (Bin.app8 (bitsOf_bin _ _ _) h2)) (Bin.app8 (bitsOf_bin _ _ _) (Bin.app8 (bitsOf_bin _ _ _) h4))⟩
  simp only [List.length_append, bitsOf_length]
  omega
theorem two_at (L : List Nat) (hB : Bin L) (s : ByteArray) : BitsAt (txt (packB false L) ++ s) 0 L := by
  have hs : (txt (packB false L)).size = (L.length + 7) / 8 := by rw [txt_size, packB_length]
  refine ⟨by rw [ByteArray.size_append]; omega, fun i hi => ?_⟩
  rw [Nat.zero_add, ← bit_txt false L hB i (by omega)]
  unfold bit
  congr 1
  unfold byteAt
  rw [ByteArray.data_append, Array.toList_append, List.getD_eq_getElem?_getD, List.getElem?_append_left (by rw [Array.length_toList]; show i / 8 < (txt (packB false L)).size; omega), ← List.getD_eq_getElem?_getD]
theorem spelt_run (l1 l2 : List Sx) (s : ByteArray) : runR (txt (packB false (twoS l1 l2)) ++ s) (allO l2 (allO l1 [])).length = .ok () (twoS l1 l2).length (allO l2 (allO l1 [])) := by
  have h := two_at (twoS l1 l2) (twoS_facts l1 l2).2 s
  have hh := h.1
  have hlen : 1 ≤ (twoS l1 l2).length := by
    unfold twoS blkS
    simp only [List.length_append, bitsOf_length]
    omega
  generalize txt (packB false (twoS l1 l2)) ++ s = T at *
  unfold runR
  obtain ⟨g, hg⟩ : ∃ g, 8 * T.size + 1 = g + 1 + 1 := ⟨8 * T.size - 1, by omega⟩
  have hlo := (allO_len l2 (allO l1 [])).1
  unfold twoS at h ⊢
  have h2 := h.right
  rw [Nat.zero_add] at h2
  rw [hg, one_spelt (by omega) h.left hlo (g + 1), if_pos rfl, Nat.zero_add, one_spelt (Nat.le_refl _) h2 (Nat.le_refl _) g, if_neg (by decide), List.length_append]
end Go.Proofs.Ytgjenpdppobpkaa.If
