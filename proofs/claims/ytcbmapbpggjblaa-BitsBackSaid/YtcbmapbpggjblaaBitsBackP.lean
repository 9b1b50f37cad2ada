/-
  BitsBack, the plain part: acts put one behind the other, and read back; and a row of acts that the call owns.
-/
import Derived.Test.YtcbmapbpggjblaaBitsActs2
namespace Go.Proofs.Ytcbmapbpggjblaa.Bt
open Go.RowKit

theorem valOf_congr (hi : Bool) (f g : Nat → Nat) : ∀ n, (∀ i, i < n → f i = g i) → valOf hi f n = valOf hi g n
  | 0, _ => rfl
  | n + 1, h => by unfold valOf; rw [valOf_congr hi f g n (fun i hi' => h i (by omega)), h n (by omega)]
theorem valOf_zero (hi : Bool) : ∀ n, valOf hi (fun _ => 0) n = 0
  | 0 => rfl
  | n + 1 => by unfold valOf; rw [valOf_zero hi n]; simp
theorem valOf_lo (v : Nat) : ∀ m, valOf false (fun i => v / 2 ^ i % 2) m = v % 2 ^ m
  | 0 => by simp [valOf, Nat.mod_one]
  | m + 1 => by
    unfold valOf
    rw [valOf_lo v m, Nat.pow_succ, Nat.mod_mul, Nat.mul_comm (2 ^ m)]
    simp
theorem valOf_hi (v n : Nat) (hv : v < 2 ^ n) : ∀ m, m ≤ n → valOf true (fun i => v / 2 ^ (n - 1 - i) % 2) m = v / 2 ^ (n - m)
  | 0, _ => by simp [valOf, Nat.div_eq_of_lt hv]
  | m + 1, h => by
    unfold valOf
    rw [valOf_hi v n hv m (by omega), show n - m = (n - (m + 1)) + 1 by omega, Nat.pow_succ, ← Nat.div_div_eq_div_mul, show n - 1 - m = n - (m + 1) by omega]
    simp
    omega
theorem bitsOf_getD (hi : Bool) (v n i : Nat) (h : i < n) : (bitsOf hi v n).getD i 0 = if hi then v / 2 ^ (n - 1 - i) % 2 else v / 2 ^ i % 2 := by
  simp [bitsOf, List.getD_eq_getElem?_getD, h]
theorem valOf_bitsOf (hi : Bool) (v n : Nat) (hv : v < 2 ^ n) : valOf hi (fun i => (bitsOf hi v n).getD i 0) n = v := by
  cases hi
  · rw [valOf_congr false _ (fun i => v / 2 ^ i % 2) n (fun i h => by rw [bitsOf_getD _ _ _ _ h]; simp), valOf_lo, Nat.mod_eq_of_lt hv]
  · rw [valOf_congr true _ (fun i => v / 2 ^ (n - 1 - i) % 2) n (fun i h => by rw [bitsOf_getD _ _ _ _ h]; simp), valOf_hi v n hv n (Nat.le_refl _), Nat.sub_self]
    simp

/-- the bits l, and one act more -/
def stepL (hi : Bool) (l : List Nat) (a : Act) : List Nat := if a.al then l ++ List.replicate (gap l.length) 0 else l ++ bitsOf hi a.v a.n.toNat
def putAll (hi : Bool) (d : List Act) : List Nat := d.foldl (stepL hi) []
def Act.good (a : Act) : Prop := a.al = true ∨ ¬ pBad a.v a.n
theorem putAll_snoc (hi : Bool) (d : List Act) (a : Act) : putAll hi (d ++ [a]) = stepL hi (putAll hi d) a := by simp [putAll]
theorem stepL_len (hi : Bool) (l : List Nat) (a : Act) (h : a.good) : (stepL hi l a).length ≤ l.length + 32 := by
  unfold stepL
  split
  · have := gap_lt l.length; simp; omega
  · rcases h with h | h
    · contradiction
    · unfold pBad at h; rw [List.length_append, bitsOf_length]; omega
theorem stepL_bin (hi : Bool) (l : List Nat) (a : Act) (h : Bin l) : Bin (stepL hi l a) := by
  unfold stepL
  intro x hx
  split at hx
  · rcases List.mem_append.1 hx with hx | hx
    · exact h x hx
    · rw [List.eq_of_mem_replicate hx]; omega
  · rcases List.mem_append.1 hx with hx | hx
    · exact h x hx
    · exact bitsOf_bin _ _ _ x hx
theorem stepL_pre (hi : Bool) (l : List Nat) (a : Act) : ∃ r, stepL hi l a = l ++ r := by
  unfold stepL
  split <;> exact ⟨_, rfl⟩
theorem fold_pre (hi : Bool) : ∀ (d : List Act) (l : List Nat), ∃ r, d.foldl (stepL hi) l = l ++ r
  | [], l => ⟨[], by simp⟩
  | a :: d, l => by
    obtain ⟨r, hr⟩ := stepL_pre hi l a
    obtain ⟨q, hq⟩ := fold_pre hi d (stepL hi l a)
    exact ⟨r ++ q, by rw [List.foldl_cons, hq, hr, List.append_assoc]⟩
theorem putAll_bin (hi : Bool) : ∀ (d : List Act) (l : List Nat), Bin l → Bin (d.foldl (stepL hi) l)
  | [], _, h => h
  | a :: d, l, h => putAll_bin hi d _ (stepL_bin hi l a h)
/-- the first j acts, and the next one -/
theorem putAll_take (hi : Bool) (d : List Act) (j : Nat) (h : j < d.length) : putAll hi (d.take (j + 1)) = stepL hi (putAll hi (d.take j)) d[j] := by
  rw [List.take_succ_eq_append_getElem h, putAll_snoc]
theorem putAll_split (hi : Bool) (d : List Act) (j : Nat) : ∃ r, putAll hi d = putAll hi (d.take j) ++ r := by
  obtain ⟨r, hr⟩ := fold_pre hi (d.drop j) (putAll hi (d.take j))
  refine ⟨r, ?_⟩
  rw [← hr]
  unfold putAll
  rw [← List.foldl_append, List.take_append_drop]

/-- a number that was put is read back -/
theorem getv_put (hi : Bool) (L A R : List Nat) (v n : Nat) (hB : Bin L) (hv : v < 2 ^ n) (h : L = A ++ bitsOf hi v n ++ R) : getv (txt (packB hi L)) hi A.length n = v := by
  have hl : L.length = A.length + n + R.length := by rw [h]; simp [bitsOf_length]; omega
  rw [← valOf_getv _ hi A.length (fun i => (bitsOf hi v n).getD i 0) n (fun i hin => ?_)]
  · exact valOf_bitsOf hi v n hv
  · rw [bit_txt hi L hB _ (by omega), h]
    rw [List.append_assoc, List.getD_eq_getElem?_getD, List.getD_eq_getElem?_getD, List.getElem?_append_right (by omega), Nat.add_sub_cancel_left, List.getElem?_append_left (by rw [bitsOf_length]; omega)]
/-- the bits behind are noughts -/
theorem getv_behind (hi : Bool) (L : List Nat) (n : Nat) (hB : Bin L) (hn : L.length + n = 8 * ((L.length + 7) / 8)) : getv (txt (packB hi L)) hi L.length n = 0 := by
  rw [← valOf_getv _ hi L.length (fun _ => 0) n (fun i hin => ?_)]
  · exact valOf_zero hi n
  · rw [bit_txt hi L hB _ (by omega), List.getD_eq_getElem?_getD, List.getElem?_eq_none (by omega)]
    rfl

def pos (hi : Bool) (d : List Act) (j : Nat) : Nat := (putAll hi (d.take j)).length
theorem pos_le (hi : Bool) (d : List Act) (j : Nat) (s : ByteArray) (hs : s.size = ((putAll hi d).length + 7) / 8) : pos hi d j ≤ 8 * s.size := by
  obtain ⟨r, hr⟩ := putAll_split hi d j
  have : (putAll hi d).length = pos hi d j + r.length := by rw [hr, List.length_append]; rfl
  omega
theorem back_align (hi : Bool) (d : List Act) (j : Nat) (hj : j < d.length) (h : d[j].al = true) : pos hi d (j + 1) = pos hi d j + gap (pos hi d j) := by
  unfold pos
  rw [putAll_take hi d j hj, stepL, if_pos h, List.length_append, List.length_replicate]
theorem back_get (hi : Bool) (d : List Act) (j : Nat) (hj : j < d.length) (s : ByteArray) (hs : s = txt (packB hi (putAll hi d))) (hg : d[j].good) (h : d[j].al = false) :
    ∃ m : Nat, d[j].n = m ∧ m ≤ 32 ∧ pos hi d (j + 1) = pos hi d j + m ∧ getv s hi (pos hi d j) m = d[j].v := by
  have hB : Bin (putAll hi d) := putAll_bin hi d [] (fun x hx => by cases hx)
  have hg : ¬ pBad d[j].v d[j].n := by
    rcases hg with hg | hg
    · rw [h] at hg; cases hg
    · exact hg
  unfold pBad at hg
  have e : putAll hi (d.take (j + 1)) = putAll hi (d.take j) ++ bitsOf hi d[j].v d[j].n.toNat := by
    rw [putAll_take hi d j hj, stepL, if_neg (by rw [h]; simp)]
  refine ⟨d[j].n.toNat, by omega, by omega, ?_, ?_⟩
  · unfold pos
    rw [e, List.length_append, bitsOf_length]
  · obtain ⟨r, hr⟩ := putAll_split hi d (j + 1)
    rw [e] at hr
    rw [hs]
    exact getv_put hi _ _ r _ _ hB (by omega) hr

/-! ### A row of acts -/
def actCells (a : Act) : List Value := [.bool a.al, .int .i64 a.n, .int .u32 a.v]
theorem actsCells_len (d : List Act) : (d.flatMap actCells).length = d.length * 3 := by
  induction d with
  | nil => rfl
  | cons a d ih => rw [List.flatMap_cons, List.length_append, ih]; simp [actCells]; omega
theorem actsCells_at (d : List Act) (j k : Nat) (hj : j < d.length) (hk : k < 3) : (d.flatMap actCells)[j * 3 + k]? = (actCells d[j])[k]? := by
  have e : d = d.take j ++ d[j] :: d.drop (j + 1) := by rw [← List.drop_eq_getElem_cons hj, List.take_append_drop]
  have hl : ((d.take j).flatMap actCells).length = j * 3 := by rw [actsCells_len, List.length_take]; rw [Nat.min_eq_left (by omega)]
  conv => lhs; rw [e]
  rw [List.flatMap_append, List.getElem?_append_right (by omega), hl, Nat.add_sub_cancel_left, List.flatMap_cons, List.getElem?_append_left (by simp [actCells]; omega)]
theorem ownsActs_at {w : World} {e : TypeId} {g cap : Nat} {d : List Act} (h : w.ownsRow 0 e 3 (.slice (some ⟨g, 0, none⟩) d.length cap) d.length (d.flatMap actCells)) (j k : Nat) (hj : j < d.length) (hk : k < 3) :
    w.cell? ⟨g, j * 3 + k, none⟩ = (actCells d[j])[k]? := by
  rcases h.2 with ⟨h0, _⟩ | ⟨g', cap', cur, hv, _, hgr, hnc, hcm, hcs, htake⟩
  · cases h0
  · cases hv
    rw [cellOf hgr]
    have := actsCells_at d j k hj hk
    rw [← htake, List.getElem?_take, if_pos (by omega)] at this
    simpa using this
theorem sepTail {w0 w : World} {o : Ob} {l : List Ob} (h : Sep w0 w (o :: l)) : Sep w0 w l :=
  ⟨h.ext, fun a ha => h.each a (List.mem_cons_of_mem _ ha), fun a ha => h.base a (List.mem_cons_of_mem _ ha), fun i j a b hi hj hij => h.apart (i + 1) (j + 1) a b (by simpa using hi) (by simpa using hj) (by omega)⟩
theorem cells_new (w : World) (cs : Array Value) (t : TypeId) (fr : Nat × Nat) : ∀ j u, cs.toList[j]? = some u → (w.alloc (.cells cs t fr)).cell? ((⟨w.heap.size, 0, none⟩ : Addr).add j) = some u := fun j u h => by
  have e : (⟨w.heap.size, 0, none⟩ : Addr).add j = ⟨w.heap.size, j, none⟩ := by unfold Addr.add; split <;> simp_all
  rw [e, cellOf (heap_alloc_at _)]
  simpa using h
theorem infoAct : (Try.prog.info? 37).map (fun i => (i.zero, i.size, i.bytes)) = some (some (.agg #[.bool false, .int .i64 0, .int .u32 0]), 3, 24) := by kernel_rfl
end Go.Proofs.Ytcbmapbpggjblaa.Bt
