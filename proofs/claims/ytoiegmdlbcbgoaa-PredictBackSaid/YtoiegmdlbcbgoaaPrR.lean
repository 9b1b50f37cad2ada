/-
  PredictRows: the plain law; walked.
-/
import Derived.Test.YtoiegmdlbcbgoaaPrQ
import Derived.Test.YtoiegmdlbcbgoaaPrL
namespace Go.Proofs.Ytoiegmdlbcbgoaa.Pr
open Go.RowKit

/-! ### plain -/
def rowP (p : Nat) (bs n : Nat) (c b k : Int) (f : Nat → UInt8) (j : Nat) : List UInt8 := if p = 2 then tiffR false c b k (rwF f n j) n else rowO p bs n f j
def rowL (p n : Nat) : Nat := if p = 2 then n else n + 1
theorem rowP_len (p bs n : Nat) (c b k : Int) (f : Nat → UInt8) (j : Nat) : (rowP p bs n c b k f j).length = rowL p n := by
  unfold rowP rowL
  split
  · exact tiffR_len _ _ _ _ _ _
  · exact rowO_len _ _ _ _ _
def three (p : Nat) : Prop := p = 10 ∨ p = 11 ∨ p = 2
theorem putP_walk (s : ByteArray) (p : Nat) (c b k : Int) (w : World) (hs : s.size ≤ 1048576) (h : gOk p c b k) (hp : three p) (n rows bs : Nat) (hn : rowN c b k = n) (hbs : besN c b = bs) (hz : s.size = rows * n) :
    Calls Try.prog 11 #[.string s, .agg #[.int .i64 p, .int .i64 c, .int .i64 b, .int .i64 k]] w fun e w' => e = .returned (.tuple #[.string (Pr.S ((List.range rows).flatMap (rowP p bs n c b k (byteF s)))), .int .i64 0]) ∧ Ext [] w w' := by
  rcases hp with rfl | rfl | rfl
  · exact put10_walk s 10 c b k w hs h (by omega) (by omega) n rows bs hn hbs hz
  · exact put10_walk s 11 c b k w hs h (by omega) (by omega) n rows bs hn hbs hz
  · exact putT_walk s c b k w hs h n rows bs hn hbs hz
theorem valB_congr (b cnt n : Nat) (hb : small b ∧ (cnt * b + 7) / 8 ≤ n ∨ b = 16 ∧ 2 * cnt ≤ n) (R R' : Nat → UInt8) (h : ∀ i, i < n → R i = R' i) (i : Nat) (hi : i < cnt) : valB b R i = valB b R' i := by
  unfold valB
  rcases hb with ⟨hb, hn⟩ | ⟨rfl, hn⟩
  · have := at_lt b i cnt n hb hi hn
    rw [if_neg (by rcases hb with rfl | rfl | rfl | rfl <;> omega), if_neg (by rcases hb with rfl | rfl | rfl | rfl <;> omega), h _ this]
  · rw [if_pos rfl, if_pos rfl, h _ (by omega), h _ (by omega)]
theorem tiffK_congr (b cs cnt n : Nat) (hb : small b ∧ (cnt * b + 7) / 8 ≤ n ∨ b = 16 ∧ 2 * cnt ≤ n) (undo : Bool) (R R' : Nat → UInt8) (h : ∀ i, i < n → R i = R' i) : ∀ k, k ≤ cnt → tiffK undo b cs R n k = tiffK undo b cs R' n k
  | 0, _ => rfl
  | k + 1, hk => by
    have ih := tiffK_congr b cs cnt n hb undo R R' h k (by omega)
    rw [tiffK, tiffK, ih]
    unfold tiffV
    rw [valB_congr b cnt n hb R R' h k (by omega), valB_congr b cnt n hb R R' h (k - cs) (by omega)]
theorem tiff_fits {c b k : Int} {n : Nat} (h : gOk 2 c b k) (hn : rowN c b k = n) : small b.toNat ∧ ((c * k).toNat * b.toNat + 7) / 8 ≤ n ∨ b.toNat = 16 ∧ 2 * (c * k).toNat ≤ n := by
  obtain ⟨c1, c2, b1, b2, k1, k2, m1, m2, q1, q2⟩ := gOk_bounds h
  have hck1 : 1 ≤ c * k := by have := Int.mul_le_mul c1 k1 (by omega) (by omega : (0 : Int) ≤ c); omega
  obtain ⟨cnt, hcnt⟩ : ∃ cnt : Nat, c * k = (cnt : Int) := ⟨(c * k).toNat, by omega⟩
  have hn2 : n = ((c * b * k + 7) / 8).toNat := by rw [← hn]; rfl
  rw [Int.mul_right_comm, hcnt] at hn2
  rw [hcnt, show ((cnt : Int)).toNat = cnt by omega]
  have hbk := h.2.2.1
  unfold bitsOk at hbk
  unfold small
  rcases hbk with rfl | rfl | rfl | rfl | rfl
  · rw [show (1 : Int).toNat = 1 from rfl]; omega
  · rw [show (2 : Int).toNat = 2 from rfl]; omega
  · rw [show (4 : Int).toNat = 4 from rfl]; omega
  · rw [show (8 : Int).toNat = 8 from rfl]; omega
  · rw [show (16 : Int).toNat = 16 from rfl]; omega
theorem rowO_10 (bs n : Nat) (f : Nat → UInt8) (j : Nat) : rowO 10 bs n f j = 0 :: (List.range n).map fun i => f (j * n + i) := by
  have hw : wayJ 10 bs n f j = 0 := by unfold wayJ wayV; rw [if_pos (by omega)]
  unfold rowO
  rw [hw]
  unfold putR
  refine congrArg (List.cons (0 : UInt8)) (List.map_congr_left (fun i _ => ?_))
  have hg : guessV 0 bs (rwF f n j) (abF f n j) i = 0 := by unfold guessV; split <;> rfl
  rw [hg]
  show f (j * n + i) - 0 = f (j * n + i)
  simp
theorem rowO_11 (bs n : Nat) (f : Nat → UInt8) (j : Nat) : rowO 11 bs n f j = 1 :: (List.range n).map fun i => f (j * n + i) - (if bs ≤ i then f (j * n + (i - bs)) else 0) := by
  have hw : wayJ 11 bs n f j = 1 := by unfold wayJ wayV; rw [if_pos (by omega)]
  unfold rowO
  rw [hw]
  unfold putR
  refine congrArg (List.cons (1 : UInt8)) (List.map_congr_left (fun i _ => ?_))
  have hg : guessV 1 bs (rwF f n j) (abF f n j) i = if bs ≤ i then f (j * n + (i - bs)) else 0 := by unfold guessV; split <;> rfl
  rw [hg]
  rfl
theorem rowP_congr (p bs n : Nat) (c b k : Int) (hp : three p) (h : gOk p c b k) (hn : rowN c b k = n) (f f' : Nat → UInt8) (j j' : Nat) (hf : ∀ i, i < n → f (j * n + i) = f' (j' * n + i)) : rowP p bs n c b k f j = rowP p bs n c b k f' j' := by
  unfold rowP
  rcases hp with rfl | rfl | rfl
  · rw [if_neg (by omega), if_neg (by omega), rowO_10, rowO_10]
    refine congrArg (List.cons (0 : UInt8)) (List.map_congr_left (fun i hi => ?_))
    exact hf i (by simpa using hi)
  · rw [if_neg (by omega), if_neg (by omega), rowO_11, rowO_11]
    refine congrArg (List.cons (1 : UInt8)) (List.map_congr_left (fun i hi => ?_))
    have hi' : i < n := by simpa using hi
    rw [hf i hi']
    split
    · rw [hf (i - bs) (by omega)]
    · rfl
  · rw [if_pos rfl, if_pos rfl]
    exact tiffK_congr _ _ _ n (tiff_fits h hn) false _ _ (fun i hi => hf i hi) _ (Nat.le_refl _)
theorem row10 (bs n : Nat) (c b k : Int) (f : Nat → UInt8) : rowP 10 bs n c b k f 0 = 0 :: (List.range n).map fun i => f (0 * n + i) := by
  unfold rowP
  rw [if_neg (by omega), rowO_10]
theorem B_ext {s t : ByteArray} (h : B s = B t) : s = t := by
  have := Array.toList_inj.1 h
  cases s; cases t; simpa using this
theorem B_extract (s : ByteArray) (i j : Nat) : B (s.extract i j) = ((B s).take j).drop i := by
  unfold B
  rw [ByteArray.data_extract, Array.toList_extract]
  unfold List.extract
  rw [List.drop_take]
theorem byteF_extract (s : ByteArray) (a e i : Nat) (h : a + i < e) : byteF (s.extract a e) i = byteF s (a + i) := by
  unfold byteF
  rw [B_extract, List.getD_eq_getElem?_getD, List.getElem?_drop, List.getElem?_take_of_lt h, List.getD_eq_getElem?_getD]
theorem flat_block {α : Type} (f : Nat → List α) (L : Nat) (hf : ∀ j, (f j).length = L) (rows j : Nat) (h : j < rows) : (((List.range rows).flatMap f).take (j * L + L)).drop (j * L) = f j := by
  apply List.ext_getElem?
  intro i
  rw [List.getElem?_drop]
  by_cases hi : i < L
  · rw [List.getElem?_take_of_lt (by omega), flat_get f L hf rows j i h hi]
  · rw [List.getElem?_eq_none (by rw [List.length_take]; omega), List.getElem?_eq_none (by rw [hf]; omega)]
/-- the law: the row told alone -/
theorem rows_law (s : ByteArray) (p bs n rows a : Nat) (c b k : Int) (hp : three p) (h : gOk p c b k) (hn : rowN c b k = n) (ha : a < rows) :
    let P := Pr.S ((List.range rows).flatMap (rowP p bs n c b k (byteF (s.extract 0 (rows * n)))))
    let Q := Pr.S ((List.range 1).flatMap (rowP p bs n c b k (byteF (s.extract (a * n) (a * n + n)))))
    P.size = rows * rowL p n ∧ Q.size = rowL p n ∧ P.extract (a * rowL p n) (a * rowL p n + rowL p n) = Q := by
  intro P Q
  have hq : (List.range 1).flatMap (rowP p bs n c b k (byteF (s.extract (a * n) (a * n + n)))) = rowP p bs n c b k (byteF (s.extract (a * n) (a * n + n))) 0 := by simp [List.range_succ]
  refine ⟨?_, ?_, ?_⟩
  · show (Pr.S _).size = _
    rw [S_size, flat_len _ _ (rowP_len p bs n c b k _)]
  · show (Pr.S _).size = _
    rw [S_size, hq, rowP_len]
  · apply B_ext
    rw [B_extract]
    show List.drop _ (List.take _ (B (Pr.S _))) = B (Pr.S _)
    rw [B_S, B_S, flat_block _ _ (rowP_len p bs n c b k _) rows a ha, hq]
    refine rowP_congr p bs n c b k hp h hn _ _ _ _ (fun i hi => ?_)
    have hle : (a + 1) * n ≤ rows * n := Nat.mul_le_mul_right n ha
    rw [Nat.add_mul, Nat.one_mul] at hle
    rw [byteF_extract s 0 _ _ (by omega), byteF_extract s _ _ _ (by omega)]
    congr 1
    omega
theorem ten_law (s : ByteArray) (bs n a : Nat) (c b k : Int) (hs : a * n + n ≤ s.size) : Pr.S ((List.range 1).flatMap (rowP 10 bs n c b k (byteF (s.extract (a * n) (a * n + n))))) = ⟨#[0]⟩ ++ s.extract (a * n) (a * n + n) := by
  apply B_ext
  rw [B_S]
  have hq : (List.range 1).flatMap (rowP 10 bs n c b k (byteF (s.extract (a * n) (a * n + n)))) = rowP 10 bs n c b k (byteF (s.extract (a * n) (a * n + n))) 0 := by simp [List.range_succ]
  rw [hq, row10]
  have hb : B (⟨#[0]⟩ ++ s.extract (a * n) (a * n + n)) = 0 :: B (s.extract (a * n) (a * n + n)) := by simp [B]
  rw [hb]
  congr 1
  have hl : (B (s.extract (a * n) (a * n + n))).length = n := by rw [B_len]; simp; omega
  apply List.ext_getElem
  · rw [hl]; simp
  · intro i h1 h2
    simp only [List.getElem_map, List.getElem_range, Nat.zero_mul, Nat.zero_add]
    unfold byteF
    rw [List.getD_eq_getElem?_getD, List.getElem?_eq_getElem h2]
    rfl
end Go.Proofs.Ytoiegmdlbcbgoaa.Pr
