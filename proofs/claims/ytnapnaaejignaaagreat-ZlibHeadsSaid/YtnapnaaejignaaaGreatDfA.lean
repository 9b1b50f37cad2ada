/-
  deflate, plain: pieces put by tables are unpacked. No program is in sight here.
-/
import Derived.Test.YtnapnaaejignaaaGreatPkP
import Derived.Test.YtnapnaaejignaaaGreatBitsVal
import Derived.Test.YtnapnaaejignaaaGreatPkN
import Derived.Test.YtnapnaaejignaaaGreatPkM
namespace Go.Proofs.YtnapnaaejignaaaGreat.De
open Go.RowKit Bt Hu If Mt

/-- the bits bs stand at p -/
def BitsAt (s : ByteArray) (p : Nat) (bs : List Nat) : Prop := p + bs.length ≤ 8 * s.size ∧ ∀ i, i < bs.length → bit s false (p + i) = bs.getD i 0
theorem BitsAt.left {s : ByteArray} {p : Nat} {a b : List Nat} (h : BitsAt s p (a ++ b)) : BitsAt s p a := by
  obtain ⟨h1, h2⟩ := h
  rw [List.length_append] at h1
  refine ⟨by omega, fun i hi => ?_⟩
  rw [h2 i (by rw [List.length_append]; omega), List.getD_eq_getElem?_getD, List.getElem?_append_left hi, List.getD_eq_getElem?_getD]
theorem BitsAt.right {s : ByteArray} {p : Nat} {a b : List Nat} (h : BitsAt s p (a ++ b)) : BitsAt s (p + a.length) b := by
  obtain ⟨h1, h2⟩ := h
  rw [List.length_append] at h1
  refine ⟨by omega, fun i hi => ?_⟩
  rw [Nat.add_assoc, h2 (a.length + i) (by rw [List.length_append]; omega), List.getD_eq_getElem?_getD, List.getElem?_append_right (by omega), Nat.add_sub_cancel_left, List.getD_eq_getElem?_getD]
theorem get_bits {s : ByteArray} {p v n : Nat} (out : List Nat) (hv : v < 2 ^ n) (h : BitsAt s p (bitsOf false v n)) : getR s n p out = .ok v (p + n) out := by
  obtain ⟨h1, h2⟩ := h
  rw [bitsOf_length] at h1 h2
  unfold getR
  rw [if_pos h1]
  congr 1
  rw [← Bv.valOf_getv s false p (fun i => (bitsOf false v n).getD i 0) n (fun i hi => (h2 i hi).symm)]
  exact Bv.valOf_bitsOf false v n hv
def cbD (D : List Int) (s : Nat) : List Nat := cbits ((codesN D).getD s 0) (D.getD s 0).toNat
theorem cbits_at8 (c : Nat) : ∀ (n j : Nat), j < n → (cbits c n)[j]? = some (c / 2 ^ (n - 1 - j) % 2)
  | 0, j, h => by omega
  | n + 1, 0, _ => by rw [cbits, List.getElem?_cons_zero, Nat.add_sub_cancel, Nat.sub_zero]
  | n + 1, j + 1, h => by rw [cbits, List.getElem?_cons_succ, cbits_at8 c n j (by omega), show n + 1 - 1 - (j + 1) = n - 1 - j by omega]
theorem cbits_bin8 (c : Nat) : ∀ n, Bin (cbits c n)
  | 0 => fun x hx => by cases hx
  | n + 1 => fun x hx => by
    rw [cbits] at hx
    rcases List.mem_cons.1 hx with rfl | hx
    · omega
    · exact cbits_bin8 c n x hx
theorem sym_bits {s : ByteArray} {D : List Int} {p sy : Nat} (out : List Nat) (hb : badL D = false) (hk : kra D ≤ 32768) (hD : 0 < D.getD sy 0) (h : BitsAt s p (cbD D sy)) : symR s D p out = .ok sy (p + (cbD D sy).length) out := by
  have hsl : sy < D.length := by
    refine Nat.lt_of_not_le fun h => ?_
    rw [List.getD_eq_getElem?_getD, List.getElem?_eq_none h] at hD
    simp at hD
  obtain ⟨n, hn⟩ : ∃ n : Nat, D.getD sy 0 = n := ⟨(D.getD sy 0).toNat, by omega⟩
  have hDs : D[sy]? = some (n : Int) := by rw [← hn, List.getD_eq_getElem?_getD, List.getElem?_eq_getElem hsl]; rfl
  have hn15 := (bad_false hb).2 _ (List.mem_of_getElem? hDs)
  obtain ⟨c, hc⟩ : ∃ c, (codesN D)[sy]? = some c := ⟨_, List.getElem?_eq_getElem (by rw [codesN, codesF_len]; exact hsl)⟩
  have e2 : cbD D sy = cbits c n := by
    unfold cbD
    rw [List.getD_eq_getElem?_getD, hc, hn, Int.toNat_natCast]
    rfl
  rw [e2] at h ⊢
  obtain ⟨h1, h2⟩ := h
  rw [cbits_len] at h1 h2 ⊢
  have hr := read_code D (bit s false) (8 * s.size) sy n c p hDs (by omega) (by omega) hc h1 hk (fun j hj => by
    rw [h2 j hj, List.getD_eq_getElem?_getD, cbits_at8 c n j hj]
    rfl)
  unfold symR
  rw [hr]
  rfl
theorem Bin.app8 {a b : List Nat} (h : Bin a) (h' : Bin b) : Bin (a ++ b) := fun x hx => (List.mem_append.1 hx).elim (h x) (h' x)
theorem cbD_bin (D : List Int) (s : Nat) : Bin (cbD D s) := cbits_bin8 _ _
theorem cbD_len (D : List Int) (s : Nat) : (cbD D s).length = (D.getD s 0).toNat := cbits_len _ _
/-! ### pieces -/
def lsN (n : Nat) : Nat := lastF lenB n 257 28
def dsN (b : Nat) : Nat := lastF dstB b 0 29
theorem ls_facts (n : Nat) (h1 : 3 ≤ n) (h2 : n ≤ 258) : 257 ≤ lsN n ∧ lsN n ≤ 285 ∧ lenB (lsN n) ≤ n ∧ n - lenB (lsN n) < 2 ^ lenX (lsN n) ∧ lenX (lsN n) ≤ 5 := by
  obtain ⟨a, b, c, d, e⟩ := len_next n (by omega) h1
  unfold lsN
  exact ⟨a, b, c, by omega, e.1⟩
theorem ds_facts (n : Nat) (h1 : 1 ≤ n) (h2 : n ≤ 32768) : dsN n ≤ 29 ∧ dstB (dsN n) ≤ n ∧ n - dstB (dsN n) < 2 ^ dstX (dsN n) ∧ dstX (dsN n) ≤ 13 := by
  obtain ⟨a, b, c, d⟩ := dst_of n h1 h2
  unfold dsN
  exact ⟨a, b, by omega, d⟩
/-- a piece's bits by the tables D1, D2 -/
def pcM (D1 D2 : List Int) (n b : Nat) : List Nat := cbD D1 (lsN n) ++ (bitsOf false (n - lenB (lsN n)) (lenX (lsN n)) ++ (cbD D2 (dsN b) ++ bitsOf false (b - dstB (dsN b)) (dstX (dsN b))))
def pcB (D1 D2 : List Int) (x : Pc) : List Nat := if x.2.1 = 0 then cbD D1 x.1.toNat else pcM D1 D2 x.2.1.toNat x.2.2.toNat
def pcsB (D1 D2 : List Int) : List Pc → List Nat
  | [] => cbD D1 256
  | x :: l => pcB D1 D2 x ++ pcsB D1 D2 l
def PcUse (D1 D2 : List Int) (x : Pc) : Prop := (x.2.1 = 0 → 0 < D1.getD x.1.toNat 0) ∧ (x.2.1 ≠ 0 → 0 < D1.getD (lsN x.2.1.toNat) 0 ∧ 0 < D2.getD (dsN x.2.2.toNat) 0)
theorem pcB_bin (D1 D2 : List Int) (x : Pc) : Bin (pcB D1 D2 x) := by
  unfold pcB pcM
  split
  · exact cbD_bin _ _
  · exact Bin.app8 (cbD_bin _ _) (Bin.app8 (bitsOf_bin _ _ _) (Bin.app8 (cbD_bin _ _) (bitsOf_bin _ _ _)))
theorem pcsB_bin (D1 D2 : List Int) : ∀ l : List Pc, Bin (pcsB D1 D2 l)
  | [] => cbD_bin _ _
  | _ :: l => Bin.app8 (pcB_bin _ _ _) (pcsB_bin D1 D2 l)
def Le15 (D : List Int) : Prop := ∀ x ∈ D, x ≤ 15
theorem getD_15 {D : List Int} (h : Le15 D) (s : Nat) : (D.getD s 0).toNat ≤ 15 := by
  rw [List.getD_eq_getElem?_getD]
  cases hs : D[s]? with
  | none => exact Nat.zero_le _
  | some x => have := h x (List.mem_of_getElem? hs); rw [Option.getD_some]; omega
theorem pcB_len {D1 D2 : List Int} (h1 : Le15 D1) (h2 : Le15 D2) (x : Pc) (hx : mayP x = true) : (pcB D1 D2 x).length ≤ 48 := by
  unfold pcB
  split
  · rw [cbD_len]; have := getD_15 h1 x.1.toNat; omega
  · have hm := mayP_iff x hx
    obtain ⟨a1, a2, a3, a4, a5⟩ := ls_facts x.2.1.toNat (by omega) (by omega)
    obtain ⟨b1, b2, b3, b4⟩ := ds_facts x.2.2.toNat (by omega) (by omega)
    have c1 := getD_15 h1 (lsN x.2.1.toNat)
    have c2 := getD_15 h2 (dsN x.2.2.toNat)
    unfold pcM
    simp only [List.length_append, cbD_len, bitsOf_length]
    omega
theorem bad_cons {x : Pc} {l : List Pc} (h : badN (x :: l) = false) : mayP x = true ∧ badN l = false := by
  unfold badN at h
  rw [List.any_cons, Bool.or_eq_false_iff] at h
  exact ⟨by simpa using h.1, h.2⟩
theorem pcsB_len {D1 D2 : List Int} (h1 : Le15 D1) (h2 : Le15 D2) : ∀ l : List Pc, badN l = false → (pcsB D1 D2 l).length ≤ 48 * l.length + 15
  | [], _ => by rw [pcsB, cbD_len, List.length_nil]; have := getD_15 h1 256; omega
  | x :: l, h => by
    obtain ⟨a, b⟩ := bad_cons h
    have := pcB_len h1 h2 x a
    have := pcsB_len h1 h2 l b
    rw [pcsB, List.length_append, List.length_cons]
    omega
/-! ### reading them -/
def nB (o : List UInt8) : List Nat := o.map (·.toNat)
theorem nB_len (o : List UInt8) : (nB o).length = o.length := List.length_map _
theorem nB_snoc (o : List UInt8) (x : UInt8) : nB (o ++ [x]) = nB o ++ [x.toNat] := by simp [nB]
theorem nB_getD (o : List UInt8) (i : Nat) : (nB o).getD i 0 = (o.getD i 0).toNat := by
  unfold nB
  rw [List.getD_eq_getElem?_getD, List.getD_eq_getElem?_getD, List.getElem?_map]
  cases o[i]? <;> rfl
theorem copy_rep {B : Nat} (back p : Nat) : ∀ (n : Nat) (o : List UInt8), o.length + n ≤ B → copyL B back n p (nB o) = .ok () p (nB (repF back n o))
  | 0, o, _ => rfl
  | n + 1, o, h => by
    rw [copyL, repF]
    unfold putR
    rw [if_neg (by rw [nB_len]; omega), Rs.bind_ok, nB_len, nB_getD, ← nB_snoc]
    exact copy_rep back p n _ (by rw [List.length_append, List.length_singleton]; omega)
theorem expL_ge : ∀ (l : List Pc) (o : List UInt8), o.length ≤ (expL l o).length
  | [], o => Nat.le_refl _
  | x :: l, o => by
    rw [expL]
    split
    · have := expL_ge l (o ++ [x.1]); rw [List.length_append, List.length_singleton] at this; omega
    · have := expL_ge l (repF x.2.2.toNat x.2.1.toNat o); rw [repF_len] at this; omega
theorem coded_pcs (s : ByteArray) (B : Nat) {D1 D2 : List Int} (t1 : badL D1 = false ∧ kra D1 ≤ 32768) (t2 : badL D2 = false ∧ kra D2 ≤ 32768) (hend : 0 < D1.getD 256 0) :
    ∀ (l : List Pc) (o : List UInt8) (p g : Nat), BitsAt s p (pcsB D1 D2 l) → (∀ x ∈ l, PcUse D1 D2 x) → badN l = false → chkL l o.length = 0 → (expL l o).length ≤ B → 8 * s.size + 1 ≤ p + g →
      codedF s B D1 D2 g p (nB o) = .ok () (p + (pcsB D1 D2 l).length) (nB (expL l o))
  | [], o, p, g, hb, _, _, _, hB, hg => by
    rw [pcsB] at hb ⊢
    have h1 := hb.1
    have h2 : 0 < (cbD D1 256).length := by rw [cbD_len]; omega
    obtain ⟨g, rfl⟩ : ∃ k, g = k + 1 := ⟨g - 1, by omega⟩
    rw [codedF, sym_bits _ t1.1 t1.2 hend hb, Rs.bind_ok, if_neg (by omega), if_pos rfl]
    rfl
  | x :: l, o, p, g, hb, hu, hm, hc, hB, hg => by
    rw [pcsB] at hb ⊢
    have hb1 := hb.left
    have hb2 := hb.right
    have hbig := hb2.1
    obtain ⟨m1, m2⟩ := bad_cons hm
    have hm' := mayP_iff x m1
    obtain ⟨u1, u2⟩ := hu x (by simp)
    have hu' : ∀ y ∈ l, PcUse D1 D2 y := fun y hy => hu y (by simp [hy])
    rw [chkL] at hc
    split at hc
    · cases hc
    rename_i hback
    rw [expL] at hB ⊢
    by_cases h0 : x.2.1 = 0
    · have eB : pcB D1 D2 x = cbD D1 x.1.toNat := if_pos h0
      rw [if_pos h0] at hB ⊢
      have hl := expL_ge l (o ++ [x.1])
      have hx := x.1.toNat_lt
      rw [List.length_append, List.length_singleton] at hl
      rw [eB] at hb1 hb2 hbig ⊢
      have c1 : 0 < (cbD D1 x.1.toNat).length := by rw [cbD_len]; have := u1 h0; omega
      obtain ⟨g, rfl⟩ : ∃ k, g = k + 1 := ⟨g - 1, by omega⟩
      rw [codedF, sym_bits _ t1.1 t1.2 (u1 h0) hb1, Rs.bind_ok, if_pos hx]
      unfold putR
      rw [if_neg (by rw [nB_len]; omega), Rs.bind_ok, ← nB_snoc]
      rw [coded_pcs s B t1 t2 hend l _ _ g hb2 hu' m2 (by rw [List.length_append, List.length_singleton]; rw [h0, show (o.length : Int) + max 1 0 = ((o.length + 1 : Nat) : Int) by omega] at hc; exact hc) hB (by omega), List.length_append, Nat.add_assoc]
    · rw [if_neg h0] at hB ⊢
      obtain ⟨n, hn⟩ : ∃ n, x.2.1.toNat = n := ⟨_, rfl⟩
      obtain ⟨b, hbk⟩ : ∃ b, x.2.2.toNat = b := ⟨_, rfl⟩
      have eB : pcB D1 D2 x = pcM D1 D2 n b := by unfold pcB; rw [if_neg h0, hn, hbk]
      obtain ⟨u2, u3⟩ := u2 h0
      rw [hn] at u2 hB ⊢
      rw [hbk] at u3 hB ⊢
      obtain ⟨a1, a2, a3, a4, a5⟩ := ls_facts n (by omega) (by omega)
      obtain ⟨b1, b2, b3, b4⟩ := ds_facts b (by omega) (by omega)
      have hl := expL_ge l (repF b n o)
      rw [repF_len] at hl
      rw [eB] at hb1 hb2 hbig ⊢
      unfold pcM at hb1 hb2 hbig ⊢
      have c1 : 0 < (cbD D1 (lsN n)).length := by rw [cbD_len]; omega
      obtain ⟨g, rfl⟩ : ∃ k, g = k + 1 := ⟨g - 1, by rw [List.length_append] at hbig; omega⟩
      rw [codedF, sym_bits _ t1.1 t1.2 u2 hb1.left, Rs.bind_ok, if_neg (by omega), if_neg (by omega), if_pos a2]
      have e1 := hb1.right.left
      have e2 := hb1.right.right.left
      have e3 := hb1.right.right.right
      rw [bitsOf_length] at e2 e3
      unfold againR
      rw [get_bits _ a4 e1, Rs.bind_ok, sym_bits _ t2.1 t2.2 u3 e2, Rs.bind_ok, if_pos b1, get_bits _ b3 e3, Rs.bind_ok]
      rw [show dstB (dsN b) + (b - dstB (dsN b)) = b by omega, show lenB (lsN n) + (n - lenB (lsN n)) = n by omega, if_pos (by rw [nB_len]; omega), copy_rep b _ n o (by omega), Rs.bind_ok]
      have hq : p + (cbD D1 (lsN n)).length + lenX (lsN n) + (cbD D2 (dsN b)).length + dstX (dsN b) = p + (cbD D1 (lsN n) ++ (bitsOf false (n - lenB (lsN n)) (lenX (lsN n)) ++ (cbD D2 (dsN b) ++ bitsOf false (b - dstB (dsN b)) (dstX (dsN b))))).length := by
        rw [List.length_append, List.length_append, List.length_append, bitsOf_length, bitsOf_length]
        omega
      rw [hq]
      rw [coded_pcs s B t1 t2 hend l _ _ g hb2 hu' m2 (by rw [repF_len]; rw [show ((o.length + n : Nat) : Int) = (o.length : Int) + max 1 x.2.1 by omega]; exact hc) hB (by rw [List.length_append]; omega)]
      congr 1
      simp only [List.length_append]
      omega
theorem two_at (L : List Nat) (hB : Bin L) (s : ByteArray) : BitsAt (txt (packB false L) ++ s) 0 L := by
  have hs : (txt (packB false L)).size = (L.length + 7) / 8 := by rw [txt_size, packB_length]
  refine ⟨by rw [ByteArray.size_append]; omega, fun i hi => ?_⟩
  rw [Nat.zero_add, ← bit_txt false L hB i (by omega)]
  unfold bit
  congr 1
  unfold byteAt
  rw [ByteArray.data_append, Array.toList_append, List.getD_eq_getElem?_getD, List.getElem?_append_left (by rw [Array.length_toList]; show i / 8 < (txt (packB false L)).size; omega), ← List.getD_eq_getElem?_getD]
end Go.Proofs.YtnapnaaejignaaaGreat.De
