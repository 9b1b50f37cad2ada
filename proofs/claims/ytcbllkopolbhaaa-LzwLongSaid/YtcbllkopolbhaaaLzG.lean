/-
  lzw.Get, the parts: the strings of a table's rows; rows.bytes walked; slices.Clone.
-/
import Derived.Test.YtcbllkopolbhaaaLzP
import Derived.Test.YtcbllkopolbhaaaLzQ
import Derived.Test.YtcbllkopolbhaaaRow
import Derived.Outline
namespace Go.Proofs.Ytcbllkopolbhaaa.Lz
open Go.RowKit Go.Maps

/-! ### plain: a table's rows as strings -/
theorem snocInd {α : Type} {P : List α → Prop} (h0 : P []) (hs : ∀ l a, P l → P (l ++ [a])) (l : List α) : P l := by
  rw [← List.reverse_reverse l]
  induction l.reverse with
  | nil => exact h0
  | cons a r ih => rw [List.reverse_cons]; exact hs _ _ ih
def strOf (S : List (List Nat)) (code : Nat) : List Nat := if code < 256 then [code] else S.getD (code - 258) []
def strs (tb : List (Nat × Nat)) : List (List Nat) := tb.foldl (fun S e => S ++ [strOf S e.1 ++ [e.2]]) []
theorem strs_snoc (tb : List (Nat × Nat)) (e : Nat × Nat) : strs (tb ++ [e]) = strs tb ++ [strOf (strs tb) e.1 ++ [e.2]] := by simp [strs]
theorem strs_len (tb : List (Nat × Nat)) : (strs tb).length = tb.length := by
  induction tb using snocInd with
  | h0 => rfl
  | hs l a ih => rw [strs_snoc, List.length_append, List.length_append, ih]; rfl
def okCode (n code : Nat) : Prop := code < 256 ∨ 258 ≤ code ∧ code < 258 + n
/-- a table's rows hang on rows ahead -/
def WF (tb : List (Nat × Nat)) : Prop := ∀ i (h : i < tb.length), okCode i tb[i].1 ∧ tb[i].2 < 256
theorem WF.nil : WF [] := fun i h => by cases h
theorem WF.snoc {tb : List (Nat × Nat)} {r c : Nat} (h : WF tb) (hr : okCode tb.length r) (hc : c < 256) : WF (tb ++ [(r, c)]) := fun i hi => by
  by_cases hl : i < tb.length
  · rw [List.getElem_append_left hl]; exact h i hl
  · obtain rfl : i = tb.length := by simp at hi; omega
    simp [hr, hc]
theorem WF.init {tb : List (Nat × Nat)} {e : Nat × Nat} (h : WF (tb ++ [e])) : WF tb ∧ okCode tb.length e.1 ∧ e.2 < 256 := by
  refine ⟨fun i hi => ?_, ?_⟩
  · have := h i (by simp; omega)
    rwa [List.getElem_append_left hi] at this
  · have := h tb.length (by simp)
    simpa using this
theorem strOf_snoc (S : List (List Nat)) (x : List Nat) (code : Nat) (h : okCode S.length code) : strOf (S ++ [x]) code = strOf S code := by
  unfold strOf
  split
  · rfl
  · rw [List.getD_eq_getElem?_getD, List.getD_eq_getElem?_getD, List.getElem?_append_left]
    rcases h with h | h <;> omega
theorem okCode.mono {n m code : Nat} (h : okCode n code) (hm : n ≤ m) : okCode m code := by
  rcases h with h | h
  · exact .inl h
  · exact .inr (by omega)
/-- a row is the one that it hangs on, and its byte -/
theorem strs_at (tb : List (Nat × Nat)) : WF tb → ∀ i (h : i < tb.length), strOf (strs tb) (i + 258) = strOf (strs tb) tb[i].1 ++ [tb[i].2] := by
  induction tb using snocInd with
  | h0 => intro _ i h; cases h
  | hs l a ih =>
    intro hw i h
    obtain ⟨hl, ha, _⟩ := hw.init
    rw [strs_snoc]
    by_cases hil : i < l.length
    · rw [List.getElem_append_left hil, strOf_snoc _ _ _ (.inr (by rw [strs_len]; omega)), strOf_snoc _ _ _ (((hl i hil).1).mono (by rw [strs_len]; omega))]
      exact ih hl i hil
    · obtain rfl : i = l.length := by simp at h; omega
      have e : (l ++ [a])[l.length] = a := by simp
      rw [e, strOf_snoc _ _ a.1 (by rw [strs_len]; exact ha)]
      have e3 : ∀ S, strOf S (l.length + 258) = S.getD (l.length + 258 - 258) [] := fun S => if_neg (by omega)
      rw [e3, Nat.add_sub_cancel, List.getD_eq_getElem?_getD, List.getElem?_append_right (by rw [strs_len]; omega), strs_len]
      simp
theorem strOf_bound (tb : List (Nat × Nat)) : WF tb → ∀ code, okCode tb.length code → 0 < (strOf (strs tb) code).length ∧ (strOf (strs tb) code).length ≤ tb.length + 1 ∧ ∀ x ∈ strOf (strs tb) code, x < 256 := by
  induction tb using snocInd with
  | h0 =>
    intro _ code hc
    have hc : code < 256 := by rcases hc with h | h; exact h; simp at h; omega
    simp [strOf, hc]
  | hs l a ih =>
    intro hw code hc
    obtain ⟨hl, ha, hb⟩ := hw.init
    by_cases hcl : okCode l.length code
    · rw [strs_snoc, strOf_snoc _ _ _ (by rw [strs_len]; exact hcl)]
      have := ih hl code hcl
      refine ⟨this.1, ?_, this.2.2⟩
      simp; omega
    · obtain rfl : code = l.length + 258 := by
        rcases hc with h | h
        · exact absurd (Or.inl h) hcl
        · have : ¬ (258 ≤ code ∧ code < 258 + l.length) := fun q => hcl (.inr q)
          simp at h; omega
      have h1 := strs_at _ hw l.length (by simp)
      have e : (l ++ [a])[l.length] = a := by simp
      rw [e] at h1
      rw [h1, strs_snoc, strOf_snoc _ _ _ (by rw [strs_len]; exact ha)]
      have h2 := ih hl a.1 ha
      refine ⟨by simp, by simp; omega, fun x hx => ?_⟩
      rcases List.mem_append.1 hx with hx | hx
      · exact h2.2.2 x hx
      · rw [List.mem_singleton.1 hx]; exact hb

/-! ### the table in memory -/
def eCells (tb : List (Nat × Nat)) : List Value := tb.flatMap fun e => [iv e.1, Bt.b8 e.2]
theorem eCells_len (tb : List (Nat × Nat)) : (eCells tb).length = tb.length * 2 := by
  induction tb with
  | nil => rfl
  | cons a d ih => rw [eCells, List.flatMap_cons, List.length_append, ← eCells, ih]; simp; omega
theorem eCells_at (tb : List (Nat × Nat)) (j : Nat) (hj : j < tb.length) : (eCells tb)[j * 2]? = some (iv tb[j].1) ∧ (eCells tb)[j * 2 + 1]? = some (Bt.b8 tb[j].2) := by
  have e : tb = tb.take j ++ tb[j] :: tb.drop (j + 1) := by rw [← List.drop_eq_getElem_cons hj, List.take_append_drop]
  have hl : (eCells (tb.take j)).length = j * 2 := by rw [eCells_len, List.length_take, Nat.min_eq_left (by omega)]
  have e2 : eCells tb = eCells (tb.take j) ++ (iv tb[j].1 :: Bt.b8 tb[j].2 :: eCells (tb.drop (j + 1))) := by
    conv => lhs; rw [e]
    unfold eCells
    rw [List.flatMap_append, List.flatMap_cons]
    rfl
  rw [e2]
  constructor
  · rw [List.getElem?_append_right (by omega), hl, Nat.sub_self]; rfl
  · rw [List.getElem?_append_right (by omega), hl, Nat.add_sub_cancel_left]; rfl
theorem ownsEdges_at {w : World} {g cap : Nat} {tb : List (Nat × Nat)} (h : w.ownsRow 0 41 2 (.slice (some ⟨g, 0, none⟩) tb.length cap) tb.length (eCells tb)) (j : Nat) (hj : j < tb.length) :
    w.cell? ⟨g, j * 2, none⟩ = some (iv tb[j].1) ∧ w.cell? ⟨g, j * 2 + 1, none⟩ = some (Bt.b8 tb[j].2) := by
  rcases h.2 with ⟨h0, _⟩ | ⟨g', cap', cur, hv, _, hgr, hnc, hcm, hcs, htake⟩
  · cases h0
  · cases hv
    rw [cellOf hgr, cellOf hgr]
    obtain ⟨h1, h2⟩ := eCells_at tb j hj
    rw [← htake, List.getElem?_take, if_pos (by omega)] at h1 h2
    exact ⟨by simpa using h1, by simpa using h2⟩
theorem byte_row (w : World) (x : Value) : (w.alloc (.cells #[x] 5 (0, 0))).ownsRow 0 5 1 (.slice (some ⟨w.heap.size, 0, none⟩) 1 1) 1 [x] :=
  ⟨rfl, .inr ⟨w.heap.size, 1, #[x], rfl, Nat.zero_le _, heap_alloc_at _, Nat.le_refl _, by unfold maxLen; omega, rfl, rfl⟩⟩
def oBs (v : Value) (l : List Nat) : Ob := oSl 5 1 v l.length (l.map Bt.b8)

set_option maxRecDepth 100000 in
set_option maxHeartbeats 8000000 in
theorem bytes_walk (tb : List (Nat × Nat)) (hwf : WF tb) (hn : tb.length ≤ 4096) (v : Value) : ∀ (code : Nat), okCode tb.length code → ∀ w : World, w.ownsRow 0 41 2 v tb.length (eCells tb) →
    Calls Try.prog 27 #[v, .int .i64 code] w fun e w' => ∃ v', e = .returned v' ∧ Sep w w' [oBs v' (strOf (strs tb) code)] := by
  intro code
  induction code using Nat.strongRecOn with
  | ind code ih =>
    intro hc w hw
    by_cases h256 : code < 256
    · have hs : strOf (strs tb) code = [code] := by simp [strOf, h256]
      have HS := Lib.hid hs
      clear hs ih
      go_enter Try.func27, Try.ntmps27
      go_wp2_with fail
      go_ret
      rw [HS.out]
      exact ⟨_, rfl, (Sep.start w).new ((Ext.refl _ w).alloc _) (oBs _ [code]) (byte_row w (Bt.b8 code)) (fun q hq => by simp [oBs, oSl, Value.ownBlock] at hq; omega)⟩
    · obtain ⟨i, rfl, hi⟩ : ∃ i, code = i + 258 ∧ i < tb.length := by
        rcases hc with h | h
        · exact absurd h h256
        · exact ⟨code - 258, by omega, by omega⟩
      have hs := strs_at tb hwf i hi
      obtain ⟨hr, hb⟩ := hwf i hi
      obtain ⟨g, cap, rfl⟩ := row_form hw (by omega)
      obtain ⟨q1, q2⟩ := ownsEdges_at hw i hi
      obtain ⟨hb1, hb2, hb3⟩ := strOf_bound tb hwf tb[i].1 (hr.mono (by omega))
      have ih' := ih tb[i].1 (by rcases hr with h | h <;> omega) (hr.mono (by omega))
      generalize tb[i].1 = r at *
      generalize tb[i].2 = c at *
      unfold iv at q1
      unfold Bt.b8 at q2
      have i1 : (0 : Int) ≤ (i : Int) := by omega
      have i2 : (i : Int) < (tb.length : Int) := by omega
      have HS := Lib.hid hs
      clear hs ih h256
      obtain ⟨j0, hif, hz0, hz1, hz2⟩ := info_parts Bt.infoByte
      go_enter Try.func27, Try.ntmps27
      go_wp2_with fail
      go_region_held3 (fun w' => w'.cell? ⟨w.heap.size, 0, none⟩ = some (.int .i64 r) ∧ w'.cell? ⟨w.heap.size, 1, none⟩ = some (.int .u8 c)) (first | go_keep | (refine ⟨Ext.cell S2.ext ?_, Ext.cell S2.ext ?_⟩ <;> simp) | (go_split_ands; refine ⟨?_, ?_⟩ <;> (rw [hgrow1.cell_far _ (by simp; omega) (Ne.symm hne2)]; assumption)))
        (first | (go_at_call 27; refine (ih' _ ?_).mono ?_; (first | exact (hw.alloc _).drew | exact ((hw.alloc _).drew).alloc _ | exact ((hw.alloc _).alloc _).drew); rintro e w2 ⟨v', rfl, S2⟩; have R2 : w2.ownsRow 0 5 1 v' (strOf (strs tb) r).length ((strOf (strs tb) r).map Bt.b8) := S2.get 0 rfl; have X2 : Ext [] w w2 := (by first | exact (((Ext.refl [] w).alloc _).drew).trans S2.ext | exact ((((Ext.refl [] w).alloc _).alloc _).drew).trans S2.ext); have hbs : ∀ q, v'.ownBlock = some q → w.heap.size + 1 ≤ q := (fun q hq => by have := S2.base _ (List.mem_singleton.2 rfl) q (by simp [oBs, oSl, hq]); simp at this; omega); have hne2 : v'.ownBlock ≠ some w.heap.size := (fun h => by have := hbs _ h; omega); have hsz2 : w.heap.size < w2.heap.size := (by have := S2.ext.size; simp at this; omega)) | (refine step_append_lies _ (by rfl) _ _ _ (by rfl) 0 5 j0 _ 1 1 Try.underlying36 hif hz0 hz1 hz2 rfl (by decide) v' _ _ (by rfl) (R2.alloc _) ⟨w2.heap.size, 0, none⟩ 1 1 [.int .u8 c] (by rfl) (by rfl) (cell_one_new _ _ _) (by simp [Value.oneCell']) (by decide) (by unfold maxLen; omega) (by omega) (by omega) (w2.heap.size + 1) (by simp) ?_; intro g1 cap1 w3 hown1 hgrow1 hat1 hlt1) | (refine step_append_lies _ (by rfl) _ _ _ (by rfl) 0 5 j0 _ 1 1 Try.underlying36 hif hz0 hz1 hz2 rfl (by decide) v' _ _ (by rfl) R2 ⟨w.heap.size + 1, 0, none⟩ 1 1 [.int .u8 c] (by rfl) (by rfl) (World.news_of_block (cs := #[.int .u8 c]) (t := 5) (fr := (0, 0)) (S2.ext.keep (heap_at _ (by simp)) (by simp))) (by simp [Value.oneCell']) (by decide) (by unfold maxLen; omega) (by omega) (by omega) (w2.heap.size) rfl ?_; intro g1 cap1 w3 hown1 hgrow1 hat1 hlt1))
      all_goals go_wp2_with fail
      all_goals go_ret
      all_goals rw [HS.out]
      all_goals
        have X3 : Ext [] w w3 := (by first | exact (X2.alloc _).grown hgrow1 (fun k hk => .inr (by have := hbs k hk; omega)) | exact X2.grown hgrow1 (fun k hk => .inr (by have := hbs k hk; omega)))
        refine ⟨_, rfl, (Sep.start w).new X3 (oBs _ (strOf (strs tb) r ++ [c])) (by unfold oBs; rw [List.map_append, List.length_append]; exact hown1) (fun q hq => ?_)⟩
        obtain rfl : q = g1 := by simpa [oBs, oSl, Value.ownBlock] using hq
        rcases hat1 with h | h
        · have := hbs _ h; omega
        · omega
end Go.Proofs.Ytcbllkopolbhaaa.Lz
