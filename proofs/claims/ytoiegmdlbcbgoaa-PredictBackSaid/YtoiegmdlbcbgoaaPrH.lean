/-
  predict: the objects of Put and Get.
-/
import Derived.Test.YtoiegmdlbcbgoaaPrG
import Derived.Test.YtoiegmdlbcbgoaaPerm
import Derived.Lib.ConvBytes
namespace Go.Proofs.Ytoiegmdlbcbgoaa.Pr
open Go.RowKit

abbrev B (s : ByteArray) : List UInt8 := s.data.toList
theorem B_len (s : ByteArray) : (B s).length = s.size := Array.length_toList
def S (l : List UInt8) : ByteArray := ⟨l.toArray⟩
theorem B_S (l : List UInt8) : B (S l) = l := rfl
theorem S_size (l : List UInt8) : (Pr.S l).size = l.length := by rw [← B_len, B_S]

/-! ### a variable that holds a row of bytes -/
def bo (v : Value) : Obj := .cells #[v] 42 (0, 0)
def oOut (b : Nat) (F : List Nat) (l : List UInt8) : Ob where
  F := F
  P := fun w => ∃ v, w.heap[b]? = some (bo v) ∧ w.ownsRow 0 5 1 v l.length (l.map c8) ∧ F = b :: v.ownBlock.toList ∧ v.ownBlock ≠ some b
  ok := fun h hx hS => by
    obtain ⟨v, h1, h2, h3, h4⟩ := h
    exact ⟨v, hx.keep h1 (hS b (by rw [h3]; simp)), ownsRow_ext h2 hx (fun g hg => hS g (by rw [h3]; simp [hg])), h3, h4⟩
  lt := fun h k hk => by
    obtain ⟨v, h1, h2, h3, h4⟩ := h
    rw [h3] at hk
    rcases List.mem_cons.1 hk with rfl | hk
    · exact lt_of_block h1
    · exact (h2.lt k (by simpa using hk)).2
theorem run_text {w : World} {v : Value} {n : Nat} {l : List UInt8} (h : w.ownsRow 0 5 1 v n (l.map c8)) : (convert 42 9 v).run Try.prog w = .ok (.string (Pr.S l)) w := by
  rcases h.2 with ⟨rfl, h0⟩ | ⟨g, cap, cur, rfl, _, hg, hnc, _, hcs, htake⟩
  · have hx : l = [] := by have := h.1; simp [h0] at this; exact this
    subst hx
    exact run_convert_bytes_nil w 42 5 Try.underlying42 Try.underlying5 0 0 9 Try.underlying9
  · have hl : l.length = n := by have := h.1; simpa using this
    have := run_convert_bytes_arg w 42 5 Try.underlying42 Try.underlying5 g 0 n cap (l.map fun b => ((b.toNat : Nat) : Int)) (by simpa using hl) (fun i hi => by
      have := ownsRow_at (i := i) (u := c8 (l.getD i 0)) h (by rw [List.getElem?_map, List.getElem?_eq_getElem (by omega), List.getD_eq_getElem?_getD, List.getElem?_eq_getElem (by omega)]; rfl)
      rw [Nat.zero_add, this]
      simp [c8, List.getD_eq_getElem?_getD]
      cases l[i]? <;> rfl) 9 Try.underlying9
    have e : strOfNums (l.map fun b => ((b.toNat : Nat) : Int)) = Pr.S l := by
      simp only [strOfNums, Pr.S, List.map_map]
      congr 2
      refine (List.map_congr_left (fun b _ => ?_)).trans (List.map_id l)
      simp
    rw [e] at this
    exact this
/-- the variable between two appends: it holds the old row still; the new one is known by its own value -/
def oMid (b : Nat) (F : List Nat) (v : Value) (g n cap : Nat) (l : List UInt8) : Ob where
  F := F
  P := fun w => w.heap[b]? = some (bo v) ∧ w.ownsRow 0 5 1 (.slice (some ⟨g, 0, none⟩) n cap) l.length (l.map c8) ∧ F = [b, g] ∧ g ≠ b ∧ n = l.length
  ok := fun h hx hS => by
    obtain ⟨h1, h2, h3, h4, h5⟩ := h
    exact ⟨hx.keep h1 (hS b (by rw [h3]; simp)), ownsRow_ext h2 hx (fun q hq => hS q (by rw [h3]; simp [Value.ownBlock] at hq; simp [hq])), h3, h4, h5⟩
  lt := fun h k hk => by
    obtain ⟨h1, h2, h3, h4, h5⟩ := h
    rw [h3] at hk
    rcases List.mem_cons.1 hk with rfl | hk
    · exact lt_of_block h1
    · obtain rfl : k = g := by simpa using hk
      exact (h2.lt k (by simp [Value.ownBlock])).2
theorem info5 : ∃ i, Try.prog.info? 5 = some i ∧ i.zero = some (.int .u8 0) ∧ i.size = 1 ∧ i.bytes = 1 := by
  obtain ⟨i, h⟩ := info_parts infoByte
  exact ⟨i, h⟩
/-- append onto what the variable holds -/
theorem out_append {w W : World} {L : List Ob} (Sp : Sep w W L) (i : Nat) {b : Nat} {F : List Nat} {l : List UInt8} (hL : L[i]? = some (oOut b F l)) {v : Value} (hb : W.heap[b]? = some (bo v)) (tx : TypeId) (x : Value) (news : List UInt8) (hs : Src Try.prog 1 tx x news.length (news.map c8) W) (hm : 0 < news.length) (hmax : l.length + news.length ≤ 16777216) :
    ∃ g cap w', (Builtin.append_ #[42, tx] 42 #[v, x]).run Try.prog W = .ok (.slice (some ⟨g, 0, none⟩) (l.length + news.length) cap) w' ∧ w'.heap[b]? = some (bo v) ∧ W.heap.size ≤ w'.heap.size ∧
      Sep w w' (L.set i (oMid b [b, g] v g (l.length + news.length) cap (l ++ news))) := by
  obtain ⟨i0, hi, hz0, hz1, hz2⟩ := info_parts infoByte
  obtain ⟨v', hb', hown, hF, hne⟩ := Sp.get i hL
  obtain rfl : v = v' := by
    rw [hb] at hb'
    have := Option.some.inj hb'
    simpa [bo] using this
  obtain ⟨g, cap, w', hr, h2, h3, h4, h5⟩ := run_append_src (P := Try.prog) W 0 42 tx 42 5 i0 _ 1 1 Try.underlying42 hi hz0 hz1 hz2 rfl (by decide) v l.length (l.map c8) hown x news.length (news.map c8) hs hm (by unfold maxLen; omega) (by omega) (by omega)
  have hx : Ext v.ownBlock.toList W w' := (Ext.refl _ W).grown h3 (fun k hk => .inl (by simp [hk]))
  have hb2 : w'.heap[b]? = some (bo v) := hx.keep hb (by simpa using hne)
  have hgb : g ≠ b := fun e => by
    rcases h4 with h | h
    · exact hne (by rw [h, e])
    · have := lt_of_block hb; omega
  refine ⟨g, cap, w', hr, hb2, hx.size, Sp.upd i (oMid b [b, g] v g (l.length + news.length) cap (l ++ news)) hL (hx.mono (fun k _ hk => by show k ∈ F; rw [hF]; simp [hk])) (fun q hq => ?_) ⟨hb2, ?_, rfl, hgb, by simp⟩⟩
  · have hq' : q = b ∨ q = g := by simpa [oMid] using hq
    rcases hq' with rfl | rfl
    · exact .inl (by show _ ∈ F; rw [hF]; simp)
    · rcases h4 with h | h
      · exact .inl (by show _ ∈ F; rw [hF]; simp [h])
      · exact .inr (by omega)
  · rw [List.length_append, List.map_append]; exact h2
/-- append onto what was appended to -/
theorem mid_append {w W : World} {L : List Ob} (Sp : Sep w W L) (i : Nat) {b : Nat} {F : List Nat} {v : Value} {g n cap : Nat} {l : List UInt8} (hL : L[i]? = some (oMid b F v g n cap l)) (tx : TypeId) (x : Value) (news : List UInt8) (hs : Src Try.prog 1 tx x news.length (news.map c8) W) (hm : 0 < news.length) (hmax : l.length + news.length ≤ 16777216) :
    ∃ g' cap' w', (Builtin.append_ #[42, tx] 42 #[.slice (some ⟨g, 0, none⟩) n cap, x]).run Try.prog W = .ok (.slice (some ⟨g', 0, none⟩) (l.length + news.length) cap') w' ∧ w'.heap[b]? = some (bo v) ∧ W.heap.size ≤ w'.heap.size ∧
      Sep w w' (L.set i (oMid b [b, g'] v g' (l.length + news.length) cap' (l ++ news))) := by
  obtain ⟨i0, hi, hz0, hz1, hz2⟩ := info_parts infoByte
  obtain ⟨hb, hown, hF, hne, hn⟩ := Sp.get i hL
  subst hn
  obtain ⟨g', cap', w', hr, h2, h3, h4, h5⟩ := run_append_src (P := Try.prog) W 0 42 tx 42 5 i0 _ 1 1 Try.underlying42 hi hz0 hz1 hz2 rfl (by decide) (.slice (some ⟨g, 0, none⟩) l.length cap) l.length (l.map c8) hown x news.length (news.map c8) hs hm (by unfold maxLen; omega) (by omega) (by omega)
  have hx : Ext [g] W w' := (Ext.refl _ W).grown h3 (fun k hk => .inl (by simp [Value.ownBlock] at hk; simp [hk]))
  have hb2 : w'.heap[b]? = some (bo v) := hx.keep hb (by simpa using (Ne.symm hne))
  have hgb : g' ≠ b := fun e => by
    rcases h4 with h | h
    · exact hne (by rw [← e]; simpa [Value.ownBlock] using h)
    · have := lt_of_block hb; omega
  refine ⟨g', cap', w', hr, hb2, hx.size, Sp.upd i (oMid b [b, g'] v g' (l.length + news.length) cap' (l ++ news)) hL (hx.mono (fun k _ hk => by show k ∈ F; rw [hF]; simp at hk; simp [hk])) (fun q hq => ?_) ⟨hb2, ?_, rfl, hgb, by simp⟩⟩
  · have hq' : q = b ∨ q = g' := by simpa [oMid] using hq
    rcases hq' with rfl | rfl
    · exact .inl (by show _ ∈ F; rw [hF]; simp)
    · rcases h4 with h | h
      · exact .inl (by show _ ∈ F; rw [hF]; simp [Value.ownBlock] at h; simp [h])
      · exact .inr (by omega)
  · rw [List.length_append, List.map_append]; exact h2
/-- what was appended to is stored into the variable -/
theorem mid_store {w W : World} {L : List Ob} (Sp : Sep w W L) (i : Nat) {b : Nat} {F : List Nat} {v : Value} {g n cap : Nat} {l : List UInt8} (hL : L[i]? = some (oMid b F v g n cap l)) :
    Sep w (W.setCell ⟨b, 0, none⟩ (.slice (some ⟨g, 0, none⟩) n cap)) (L.set i (oOut b F l)) := by
  obtain ⟨hb, hown, hF, hne, hn⟩ := Sp.get i hL
  subst hn
  refine Sp.upd i (oOut b F l) hL ((Ext.refl _ W).setCell _ _ (.inl (by show b ∈ F; rw [hF]; simp))) (Fr.refl _ _) ⟨_, heap_setCell_same hb _, ownsRow_setCell_other hown (fun e => hne (by simpa [Value.ownBlock] using e)) _, by rw [hF]; simp [Value.ownBlock], fun e => hne (by simpa [Value.ownBlock] using e)⟩

/-! ### blocks that a round must keep -/
def Ob.keep (W : World) (l : List Nat) : Ob where
  F := l
  P := fun w => W.heap.size ≤ w.heap.size ∧ ∀ k ∈ l, k < w.heap.size ∧ w.heap[k]? = W.heap[k]?
  ok := fun h hx hS => ⟨Nat.le_trans h.1 hx.size, fun k hk => ⟨Nat.lt_of_lt_of_le (h.2 k hk).1 hx.size, (hx.block k (h.2 k hk).1 (hS k hk)).trans (h.2 k hk).2⟩⟩
  lt := fun h k hk => (h.2 k hk).1
theorem keep_start {w W : World} {L : List Ob} {l : List Nat} (Sp : Sep w W L) (i : Nat) (hL : L[i]? = some (Ob.room l)) : Sep w W (L.set i (Ob.keep W l)) :=
  Sp.upd i (Ob.keep W l) hL (Ext.refl _ _) (Fr.refl _ _) ⟨Nat.le_refl _, fun k hk => ⟨Sp.get i hL k hk, rfl⟩⟩
theorem keep_end {w W W' : World} {L : List Ob} {l : List Nat} (Sp : Sep w W' L) (i : Nat) (hL : L[i]? = some (Ob.keep W l)) : KeepsT l W W' ∧ Sep w W' (L.set i (Ob.room l)) :=
  ⟨⟨(Sp.get i hL).1, fun k hk => ((Sp.get i hL).2 k hk).2⟩, Sp.upd i (Ob.room l) hL (Ext.refl _ _) (Fr.refl _ _) (fun k hk => ((Sp.get i hL).2 k hk).1)⟩

/-! ### bytes that are read -/
def oRd (g : Nat) (f : Nat → UInt8) (n : Nat) : Ob where
  F := [g]
  P := fun w => g < w.heap.size ∧ ∀ j, j < n → w.cell? ⟨g, j, none⟩ = some (c8 (f j))
  ok := fun h hx hS => ⟨Nat.lt_of_lt_of_le h.1 hx.size, fun j hj => (World.cell?_of_block (hx.block g h.1 (hS g (by simp)))).trans (h.2 j hj)⟩
  lt := fun h k hk => by rw [List.mem_singleton.1 hk]; exact h.1
def byteF (s : ByteArray) (i : Nat) : UInt8 := (B s).getD i 0
theorem conv_ex (x : ByteArray) (W : World) (hx : x.size ≤ 1048576) : ∃ W' cap, (convert 9 42 (.string x)).run Try.prog W = .ok (.slice (some ⟨W.heap.size, 0, none⟩) x.size cap) W' ∧ Ext [] W W' ∧ x.size ≤ cap ∧ cap ≤ maxLen ∧
    W.heap.size < W'.heap.size ∧ ∀ j, j < x.size → W'.cell? ⟨W.heap.size, j, none⟩ = some (c8 (byteF x j)) := by
  refine ⟨Lib.bytesWorld W 5 x, grownCap W x.size 0 5, Lib.run_convert_string_bytes W 9 42 5 x Try.underlying9 Try.underlying42 Try.underlying5,
    ⟨rfl, rfl, rfl, by rw [Lib.bytesWorld_size]; omega, fun k hk _ => Lib.bytesWorld_at_old W _ x k hk⟩, grownCap_ge _ _ _ _, grownCap_le_maxLen _ _ _ _ (by unfold maxLen; omega), by rw [Lib.bytesWorld_size]; omega, fun j hj => ?_⟩
  rw [Lib.bytesWorld_cell W _ x j hj]
  unfold byteF
  rw [List.getD_eq_getElem?_getD, List.getElem?_eq_getElem (by rw [B_len]; exact hj)]
end Go.Proofs.Ytoiegmdlbcbgoaa.Pr
