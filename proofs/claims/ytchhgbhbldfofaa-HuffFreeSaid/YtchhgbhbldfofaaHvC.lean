/-
  Plain: the depths, counted up as the document does; nodes in memory as an object.
-/
import Derived.Test.YtchhgbhbldfofaaHvB
namespace Go.Proofs.Ytchhgbhbldfofaa.Hu
open Go.RowKit

def syms (x : Nd) : List Nat := (lfs x).map (·.2)
/-- the depths of a wood's leaves; nought where there is none -/
def DepM (n : Nat) (L : List Nd) (M : List Int) : Prop :=
  M.length = n ∧ ∀ s, s < n → (∀ x ∈ L, ∀ t ∈ lvs x 0, t.2.1 = s → M[s]? = some (t.2.2 : Int)) ∧ ((∀ x ∈ L, s ∉ syms x) → M[s]? = some 0)
theorem DepM.perm {n : Nat} {L L' : List Nd} {M : List Int} (h : DepM n L M) (hp : ∀ x, x ∈ L' ↔ x ∈ L) : DepM n L' M :=
  ⟨h.1, fun s hs => ⟨fun x hx => (h.2 s hs).1 x ((hp x).1 hx), fun hn => (h.2 s hs).2 (fun x hx => hn x ((hp x).2 hx))⟩⟩
theorem lvs_shift : ∀ (x : Nd) (d e : Nat), lvs x (d + e) = (lvs x d).map fun t => (t.1, t.2.1, t.2.2 + e)
  | .leaf _ _, d, e => rfl
  | .join _ _ a b, d, e => by
    rw [lvs, lvs, List.map_append, show d + e + 1 = (d + 1) + e by omega, lvs_shift a (d + 1) e, lvs_shift b (d + 1) e]
theorem syms_lvs (x : Nd) (d : Nat) : (lvs x d).map (·.2.1) = syms x := by
  unfold syms
  rw [← lvs_lfs x d, List.map_map]
  rfl
theorem mem_syms (x : Nd) (d s : Nat) : s ∈ syms x ↔ ∃ c e, (c, s, e) ∈ lvs x d := by
  rw [← syms_lvs x d, List.mem_map]
  constructor
  · rintro ⟨⟨c, s', e⟩, h, rfl⟩; exact ⟨c, e, h⟩
  · rintro ⟨c, e, h⟩; exact ⟨_, h, rfl⟩
def incF (M : List Int) : List Nat → List Int
  | [] => M
  | s :: T => incF (M.set s (M.getD s 0 + 1)) T
theorem incF_len : ∀ (T : List Nat) (M : List Int), (incF M T).length = M.length
  | [], _ => rfl
  | s :: T, M => by rw [incF, incF_len T, List.length_set]
theorem incF_at : ∀ (T : List Nat) (M : List Int) (s : Nat), T.Nodup → s < M.length → (incF M T)[s]? = some (M.getD s 0 + if s ∈ T then 1 else 0)
  | [], M, s, _, hs => by
    rw [incF, List.getD_eq_getElem?_getD, List.getElem?_eq_getElem hs]; simp
  | u :: T, M, s, hn, hs => by
    rw [List.nodup_cons] at hn
    rw [incF, incF_at T _ s hn.2 (by rw [List.length_set]; exact hs)]
    by_cases hus : u = s
    · subst hus
      rw [if_neg hn.1, if_pos (by simp), List.getD_eq_getElem?_getD, List.getElem?_set_self hs]
      simp
    · rw [List.getD_eq_getElem?_getD, List.getElem?_set_ne hus, ← List.getD_eq_getElem?_getD]
      have : (s ∈ u :: T) ↔ s ∈ T := by rw [List.mem_cons]; exact ⟨fun h => h.resolve_left (fun e => hus e.symm), .inr⟩
      simp only [this]
theorem DepM.join {n : Nat} {L : List Nd} {M : List Int} {a b : Nd} {c : Int} {g : Nat} (h : DepM n (a :: b :: L) M) (hnd : ((a :: b :: L).flatMap syms).Nodup) :
    DepM n (.join c g a b :: L) (incF M (syms (.join c g a b))) := by
  have hsy : syms (.join c g a b) = syms a ++ syms b := by simp [syms, lfs]
  have hnd2 : (syms a ++ syms b).Nodup := by
    rw [List.flatMap_cons, List.flatMap_cons, ← List.append_assoc] at hnd
    exact (List.nodup_append.1 hnd).1
  have hdis : ∀ x ∈ L, ∀ s ∈ syms x, s ∉ syms a ++ syms b := fun x hx s hs hm => by
    rw [List.flatMap_cons, List.flatMap_cons, ← List.append_assoc] at hnd
    exact (List.nodup_append.1 hnd).2.2 s hm s (List.mem_flatMap.2 ⟨x, hx, hs⟩) rfl
  refine ⟨by rw [incF_len]; exact h.1, fun s hs => ⟨fun x hx t ht hts => ?_, fun hn => ?_⟩⟩
  · rw [hsy, incF_at _ _ s hnd2 (by rw [h.1]; exact hs)]
    rcases List.mem_cons.1 hx with rfl | hx
    · have hin : s ∈ syms a ++ syms b := by
        rw [← hsy]
        exact (mem_syms _ 0 s).2 ⟨t.1, t.2.2, by rw [← hts]; exact ht⟩
      rw [if_pos hin]
      rw [lvs, lvs_shift a 0 1, lvs_shift b 0 1] at ht
      have key : ∀ y, y = a ∨ y = b → ∀ u ∈ lvs y 0, (u.1, u.2.1, u.2.2 + 1) = t → some (M.getD s 0 + 1) = some ((t.2.2 : Nat) : Int) := fun y hy u hu e => by
        subst e
        have h1 := (h.2 s hs).1 y (by rcases hy with rfl | rfl <;> simp) u hu hts
        rw [List.getD_eq_getElem?_getD, h1]
        simp
      rcases List.mem_append.1 ht with ht | ht
      · obtain ⟨u, hu, e⟩ := List.mem_map.1 ht
        exact key a (.inl rfl) u hu e
      · obtain ⟨u, hu, e⟩ := List.mem_map.1 ht
        exact key b (.inr rfl) u hu e
    · have hin : s ∈ syms x := (mem_syms _ 0 s).2 ⟨t.1, t.2.2, by rw [← hts]; exact ht⟩
      rw [if_neg (hdis x hx s hin)]
      have h1 := (h.2 s hs).1 x (by simp [hx]) t ht hts
      rw [List.getD_eq_getElem?_getD, h1]
      simp
  · have hna : s ∉ syms a ++ syms b := by rw [← hsy]; exact hn _ (by simp)
    have h1 := (h.2 s hs).2 (fun x hx => by
      rcases List.mem_cons.1 hx with rfl | hx
      · exact fun hm => hna (List.mem_append_left _ hm)
      · rcases List.mem_cons.1 hx with rfl | hx
        · exact fun hm => hna (List.mem_append_right _ hm)
        · exact hn x (by simp [hx]))
    rw [hsy, incF_at _ _ s hnd2 (by rw [h.1]; exact hs), if_neg hna, List.getD_eq_getElem?_getD, h1]
    simp
theorem DepM.start (l : List Int) : DepM l.length (leavesF l 0) (zers l.length) := by
  refine ⟨by simp [zers], fun s hs => ⟨fun x hx t ht hts => ?_, fun _ => by rw [zers, List.getElem?_replicate, if_pos hs]⟩⟩
  obtain ⟨c, u, rfl, _⟩ := leavesF_mem l 0 x hx
  rw [lvs, List.mem_singleton] at ht
  subst ht
  rw [zers, List.getElem?_replicate, if_pos hs]
  rfl
theorem DepM.uniq {n : Nat} {x : Nd} {M : List Int} (h : DepM n [x] M) (hnd : (syms x).Nodup) : M = setAll (zers n) (lvs x 0) := by
  apply List.ext_getElem?
  intro s
  by_cases hs : s < n
  · rcases setAll_at (lvs x 0) (zers n) s (by rw [syms_lvs]; exact hnd) (by simpa [zers] using hs) with ⟨h1, h2⟩ | ⟨c, d, h1, h2⟩
    · rw [h2, (h.2 s hs).2 (fun y hy => by
        rw [List.mem_singleton] at hy
        subst hy
        intro hm
        obtain ⟨c, e, hce⟩ := (mem_syms y 0 s).1 hm
        exact h1 c e hce), zers, List.getElem?_replicate, if_pos hs]
    · rw [h2, (h.2 s hs).1 x (by simp) _ h1 rfl]
  · have hl : (setAll (zers n) (lvs x 0)).length = n := by
      rw [← setD_all, setD_len]; simp [zers]
    rw [List.getElem?_eq_none (by rw [h.1]; omega), List.getElem?_eq_none (by rw [hl]; omega)]
theorem syms_flat (L : List Nd) : L.flatMap syms = (lfsL L).map (·.2) := by
  unfold lfsL syms
  rw [List.map_flatMap]
theorem leaves_nodup (l : List Int) : ((leavesF l 0).flatMap syms).Nodup := by
  rw [syms_flat, leavesF_lfs]
  exact zip_nodup l 0
/-! ### nodes in memory -/
def PartIn (w : World) (N : List Nat) (p : Zn) : Prop :=
  ∃ b cap, p.2 = .slice (some ⟨b, 0, none⟩) (syms p.1).length cap ∧ b ∈ N ∧ ∀ i s, (syms p.1)[i]? = some s → w.cell? ⟨b, i, none⟩ = some (iz (s : Nat))
theorem PartIn.ext {S : List Nat} {w w' : World} {N : List Nat} {p : Zn} (h : PartIn w N p) (hx : Ext S w w') (hS : ∀ k ∈ N, k ∉ S) : PartIn w' N p := by
  obtain ⟨b, cap, e, hb, hc⟩ := h
  exact ⟨b, cap, e, hb, fun i s hi => (World.cell?_of_block (hx.block b (World.block_lt_of_cell? w _ (hc i s hi)) (hS b hb))).trans (hc i s hi)⟩
theorem PartIn.more {w : World} {N N' : List Nat} {p : Zn} (h : PartIn w N p) (hN : ∀ k ∈ N, k ∈ N') : PartIn w N' p := by
  obtain ⟨b, cap, e, hb, hc⟩ := h
  exact ⟨b, cap, e, hN b hb, hc⟩
theorem PartIn.sl {w : World} {N : List Nat} {p : Zn} (h : PartIn w N p) : isSl p.2 := by
  obtain ⟨b, cap, e, _⟩ := h
  exact ⟨_, _, _, e⟩
structure RL (w : World) (v : Value) (N : List Nat) (Z E : List Zn) : Prop where
  row : w.ownsRow 0 102 4 v Z.length (rowC Z)
  parts : ∀ p ∈ Z ++ E, PartIn w N p
  far : ∀ k ∈ v.ownBlock.toList, k ∉ N
  lt : ∀ k ∈ N, k < w.heap.size
/-- the document's nodes in a variable: Z in the slice v, E besides; the parts in the blocks N -/
def oRL (v : Value) (N : List Nat) (Z E : List Zn) : Ob where
  F := v.ownBlock.toList ++ N
  P := fun w => RL w v N Z E
  ok := fun h hx hS => ⟨ownsRow_ext h.row hx (fun g hg => hS g (by simp [hg])), fun p hp => (h.parts p hp).ext hx (fun k hk => hS k (by simp [hk])), h.far, fun k hk => Nat.lt_of_lt_of_le (h.lt k hk) hx.size⟩
  lt := fun h k hk => by
    rcases List.mem_append.1 hk with hk | hk
    · exact (h.row.lt k (by simpa using hk)).2
    · exact h.lt k hk
theorem RL.push {wr W0 w1 : World} {v : Value} {N N' : List Nat} {Z E : List Zn} {g cap2 : Nat} {p : Zn} {O : Obj} (h : RL wr v N Z E) (hx : Ext [] wr W0) (hp : PartIn W0 N' p) (hN : ∀ k ∈ N, k ∈ N') (hN2 : ∀ k ∈ N', k ∈ N ∨ (wr.heap.size ≤ k ∧ k < W0.heap.size))
    (hown1 : w1.ownsRow 0 102 4 (.slice (some ⟨g, 0, none⟩) (Z.length + 1) cap2) (Z.length + 1) (rowC Z ++ [iz p.1.cnt, .bool p.1.mk, iz p.1.age, p.2])) (hgrow : (W0.alloc O).grownBy w1 v.ownBlock) (hat : v.ownBlock = some g ∨ g = W0.heap.size + 1) :
    RL w1 (.slice (some ⟨g, 0, none⟩) (Z ++ [p]).length cap2) N' (Z ++ [p]) [] ∧ Ext (v.ownBlock.toList ++ N) wr w1 ∧ Fr wr (v.ownBlock.toList ++ N) ((Value.slice (some ⟨g, 0, none⟩) (Z ++ [p]).length cap2).ownBlock.toList ++ N') := by
  obtain ⟨x1, f1⟩ := push_local (n := Z.length + 1) (cap := cap2) hgrow hat
  have hlen : (Z ++ [p]).length = Z.length + 1 := by simp
  have hvlt : ∀ k ∈ v.ownBlock.toList, k < wr.heap.size := fun k hk => (h.row.lt k (by simpa using hk)).2
  have hvN : ∀ k ∈ N', k ∉ v.ownBlock.toList := fun k hk hm => by
    rcases hN2 k hk with h1 | h1
    · exact h.far k hm h1
    · have := hvlt k hm; omega
  have hgN : g ∉ N' := fun hk => by
    rcases hat with e | e
    · exact hvN g hk (by simp [e])
    · rcases hN2 g hk with h1 | h1
      · have := h.lt g h1; have := hx.size; omega
      · omega
  have xx : Ext v.ownBlock.toList wr w1 := (hx.weak (S := v.ownBlock.toList)).trans x1
  refine ⟨⟨?_, fun q hq => ?_, fun k hk => ?_, fun k hk => ?_⟩, ?_, fun k hk => ?_⟩
  · rw [hlen, rowC_app]; exact hown1
  · rw [List.append_nil] at hq
    rcases List.mem_append.1 hq with hq | hq
    · exact ((h.parts q (by simp [hq])).more hN |>.ext xx hvN)
    · rw [List.mem_singleton] at hq
      subst hq
      exact hp.ext x1 hvN
  · obtain rfl : k = g := by simpa [Value.ownBlock] using hk
    exact hgN
  · have := x1.size
    rcases hN2 k hk with h1 | h1
    · have := h.lt k h1; have := hx.size; omega
    · omega
  · exact xx.mono (fun k _ hk => List.mem_append_left _ hk)
  · rcases List.mem_append.1 hk with hk | hk
    · obtain rfl : k = g := by simpa [Value.ownBlock] using hk
      rcases hat with e | e
      · exact .inl (by simp [e])
      · have := hx.size; exact .inr (by omega)
    · rcases hN2 k hk with h1 | h1
      · exact .inl (by simp [h1])
      · exact .inr h1.1
end Go.Proofs.Ytchhgbhbldfofaa.Hu
