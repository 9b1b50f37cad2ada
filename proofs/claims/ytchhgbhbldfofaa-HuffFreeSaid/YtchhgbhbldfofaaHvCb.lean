/-
  The document's 'deep' (chapter 7): its parts: two nodes taken, two lists of symbols put together, counting up.
-/
import Derived.Test.YtchhgbhbldfofaaHvC
import Derived.Test.YtchhgbhbldfofaaHuN
namespace Go.Proofs.Ytchhgbhbldfofaa.Hu
open Go.RowKit

theorem take_at (v : Value) (Z Z1 : List Zn) (x : Nd) (px : Value) (w : World) (hv : w.ownsRow 0 102 4 v Z.length (rowC Z)) (hs : ∀ p ∈ Z, isSl p.2) (h0 : 0 < Z.length) (hl : Z.length ≤ 1000)
    (hp : Z.getD (mnI (Z.map (·.1))) default = (x, px)) (he : Z.eraseIdx (mnI (Z.map (·.1))) = Z1) :
    Calls Try.prog 53 #[v] w fun e w' => ∃ g cap, e = .returned (.tuple #[.agg #[iz x.cnt, .bool x.mk, iz x.age, px], .slice g Z1.length cap]) ∧ Ext [] w w' ∧ w'.ownsRow 0 102 4 (.slice g Z1.length cap) Z1.length (rowC Z1) ∧ ∀ k ∈ (Value.slice g Z1.length cap).ownBlock.toList, w.heap.size ≤ k := by
  refine (take_walk v Z w hv hs h0 hl).mono ?_
  rintro e w' ⟨v', rfl, hx, hrow, hf⟩
  have hk : mnI (Z.map (·.1)) < Z.length := by
    have := (mnI_spec (Z.map (·.1)) (by simpa using h0)).1
    simpa using this
  have hlen : Z1.length = Z.length - 1 := by rw [← he, List.length_eraseIdx_of_lt hk]
  rw [hp]
  rw [he, ← hlen] at hrow
  obtain ⟨g, cap, rfl⟩ : ∃ g cap, v' = .slice g Z1.length cap := by
    rcases hrow.2 with ⟨rfl, hn⟩ | ⟨g, cap, cur, rfl, _⟩
    · exact ⟨none, 0, by rw [hn]⟩
    · exact ⟨_, _, rfl⟩
  exact ⟨g, cap, rfl, hx, hrow, hf⟩
theorem two_least {Z : List Zn} {a b : Nd} {S2 : List Nd} (hp : (Z.map (·.1)).Perm (a :: b :: S2)) (hs : Srt (a :: b :: S2)) :
    ∃ pa pb Z1 Z2, Z.getD (mnI (Z.map (·.1))) default = (a, pa) ∧ Z.eraseIdx (mnI (Z.map (·.1))) = Z1 ∧ Z1.getD (mnI (Z1.map (·.1))) default = (b, pb) ∧ Z1.eraseIdx (mnI (Z1.map (·.1))) = Z2 ∧
      (Z2.map (·.1)).Perm S2 ∧ Z.Perm ((a, pa) :: (b, pb) :: Z2) ∧ Z1.length + 1 = Z.length ∧ Z2.length + 1 = Z1.length := by
  have one : ∀ {Z : List Zn} {a : Nd} {S : List Nd}, (Z.map (·.1)).Perm (a :: S) → Srt (a :: S) → ∃ pa Z1, Z.getD (mnI (Z.map (·.1))) default = (a, pa) ∧ Z.eraseIdx (mnI (Z.map (·.1))) = Z1 ∧ (Z1.map (·.1)).Perm S ∧ Z.Perm ((a, pa) :: Z1) ∧ Z1.length + 1 = Z.length := by
    intro Z a S hp hs
    obtain ⟨h1, h2, h3⟩ := mn_take hp hs
    obtain ⟨k, hk⟩ : ∃ k, mnI (Z.map (·.1)) = k := ⟨_, rfl⟩
    rw [hk] at h1 h2 h3 ⊢
    have h1' : k < Z.length := by simpa using h1
    have e : Z[k].1 = a := by
      rw [List.getD_eq_getElem?_getD, List.getElem?_map, List.getElem?_eq_getElem h1'] at h2
      simpa using h2
    have hg : Z.getD k default = Z[k] := by rw [List.getD_eq_getElem?_getD, List.getElem?_eq_getElem h1']; rfl
    refine ⟨Z[k].2, Z.eraseIdx k, by rw [hg, ← e], rfl, by rw [List.eraseIdx_eq_take_drop_succ, ← List.map_take, ← List.map_drop, ← List.map_append, ← List.eraseIdx_eq_take_drop_succ] at h3; exact h3, ?_, by rw [List.length_eraseIdx_of_lt h1']; omega⟩
    have h4 : (a, Z[k].2) = Z[k] := by rw [← e]
    rw [h4]
    have h5 : Z = Z.take k ++ Z[k] :: Z.drop (k + 1) := by rw [List.getElem_cons_drop h1', List.take_append_drop]
    rw [List.eraseIdx_eq_take_drop_succ]
    exact (List.Perm.of_eq h5).trans List.perm_middle
  obtain ⟨pa, Z1, g1, g2, g3, g4, g5⟩ := one hp hs
  obtain ⟨pb, Z2, k1, k2, k3, k4, k5⟩ := one g3 (List.pairwise_cons.1 hs).2
  exact ⟨pa, pb, Z1, Z2, g1, g2, k1, k2, k3, g4.trans (k4.cons _), g5, k5⟩
theorem syms_ne : ∀ x : Nd, 0 < (syms x).length
  | .leaf _ _ => by simp [syms, lfs]
  | .join _ _ a b => by
    have := syms_ne a
    simp [syms, lfs] at this ⊢
    omega
theorem syms_leaf' (c : Int) (s : Nat) : syms (.leaf c s) = [s] := rfl
theorem syms_join (c : Int) (g : Nat) (a b : Nd) : syms (.join c g a b) = syms a ++ syms b := by simp [syms, lfs]
/-- worlds within a drawn region: a row of the call's own that is being appended to; a node's block, if it has been made -/
structure Fl (W V : World) (v : Value) (xs : List Nat) (fl : Option Nat) : Prop where
  ext : Ext [] W V
  own : V.ownsRow 0 3 1 v xs.length (xs.map fun s : Nat => iz s)
  new : ∀ k ∈ v.ownBlock.toList, W.heap.size ≤ k
  fl : ∀ b, fl = some b → V.heap[b]? = some (.cells #[.int .i64 0, .bool false, .int .i64 0, .slice none 0 0] 102 (0, 0)) ∧ W.heap.size ≤ b ∧ v.ownBlock ≠ some b
theorem Fl.start {W V : World} (h : Ext [] W V) : Fl W V (.slice none 0 0) [] none := ⟨h, World.ownsRow_nil _ _ _ _, by simp [Value.ownBlock], by simp⟩
theorem Fl.build {W V : World} {fl : Option Nat} (h : Fl W V (.slice none 0 0) [] fl) : Fl W (V.alloc (.cells #[] 3)) (.slice (some ⟨V.heap.size, 0, none⟩) 0 0) [] fl := by
  refine ⟨h.ext.alloc _, ⟨rfl, .inr ⟨V.heap.size, 0, #[], rfl, Nat.zero_le _, heap_alloc_at _, Nat.le_refl _, by unfold maxLen; omega, rfl, rfl⟩⟩, fun k hk => ?_, fun b hb => ?_⟩
  · have := h.ext.size
    simp [Value.ownBlock] at hk
    omega
  · obtain ⟨h1, h2, h3⟩ := h.fl b hb
    refine ⟨heap_alloc_old _ h1, h2, fun e => ?_⟩
    have := lt_of_block h1
    simp [Value.ownBlock] at e
    omega
theorem Fl.flt {W V : World} {v : Value} {xs : List Nat} (h : Fl W V v xs none) : Fl W (V.alloc (.cells #[.int .i64 0, .bool false, .int .i64 0, .slice none 0 0] 102)) v xs (some V.heap.size) := by
  refine ⟨h.ext.alloc _, h.own.alloc _, h.new, fun b hb => ?_⟩
  obtain rfl := Option.some.inj hb
  refine ⟨heap_alloc_at _, h.ext.size, fun e => ?_⟩
  have := (h.own.lt _ e).2
  omega
theorem Fl.app {W V : World} {v : Value} {xs : List Nat} {fl : Option Nat} (h : Fl W V v xs fl) (ba ca : Nat) (sa : List Nat) (ha : ∀ i s, sa[i]? = some s → W.cell? ⟨ba, i, none⟩ = some (iz (s : Nat))) (hl : xs.length + sa.length ≤ 4000) :
    ∃ v1 V1, (∀ ty, (Builtin.append_ #[22, 22] ty #[v, .slice (some ⟨ba, 0, none⟩) sa.length ca]).run Try.prog V = .ok v1 V1) ∧ Fl W V1 v1 (xs ++ sa) fl := by
  obtain ⟨i0, hif, hz0, hz1, hz2⟩ := info_parts infoInt7
  obtain ⟨v1, V1, hr1, hown1, hgr1, _, hat1⟩ := run_append_own_at (P := Try.prog) V 0 22 0 3 i0 _ 1 8 Try.underlying22 hif hz0 hz1 hz2 rfl (by decide) v xs.length _ h.own ⟨ba, 0, none⟩ sa.length ca (sa.map fun s : Nat => iz s) (by simp)
    (fun j u hu => by
      rw [List.getElem?_map] at hu
      obtain ⟨x, hx, rfl⟩ := Option.map_eq_some_iff.1 hu
      rw [Addr.add_mid, Nat.zero_add]
      exact Ext.cell h.ext (ha j x hx)) (fun u hu => by
      obtain ⟨x, _, rfl⟩ := List.mem_map.1 hu
      rfl) (by unfold maxLen; omega) (by omega) (Nat.zero_le _)
  rw [← List.map_append, ← List.length_append] at hown1
  refine ⟨v1, V1, fun _ => hr1, ?_, hown1, fun q hq => ?_, fun b hb => ?_⟩
  · refine h.ext.trans' (T := v.ownBlock.toList) ((Ext.refl _ _).grown hgr1 (fun k hk => .inl (by simpa using hk))) (fun i hi hh => ?_)
    have := h.new i hh
    omega
  · have hq' : v1.ownBlock = some q := by simpa using hq
    rcases hat1 with e | e
    · exact h.new q (by rw [← e]; exact hq)
    · rw [e] at hq'
      have := Option.some.inj hq'
      have := h.ext.size
      omega
  · obtain ⟨h1, h2, h3⟩ := h.fl b hb
    refine ⟨grown_keep hgr1 h1 h3, h2, fun e => ?_⟩
    rcases hat1 with e1 | e1
    · rw [e1] at e; exact h3 e
    · rw [e1] at e
      have := Option.some.inj e
      have := lt_of_block h1
      omega
theorem Fl.sl {W V : World} {v : Value} {xs : List Nat} {fl : Option Nat} (h : Fl W V v xs fl) (h0 : 0 < xs.length) : ∃ nb cap, v = .slice (some ⟨nb, 0, none⟩) xs.length cap := by
  rcases h.own.2 with ⟨_, hn⟩ | ⟨g, cap, cur, rfl, _⟩
  · omega
  · exact ⟨_, _, rfl⟩
/-- what the region leaves -/
def JoinAt (W : World) (c g : Int) (xs : List Nat) (v9 : Value) (w' : World) : Prop :=
  ∃ nb cap b9, v9 = .pointer (some ⟨b9, 0, none⟩) ∧ Ext [] W w' ∧ w'.heap[b9]? = some (.cells #[iz c, .bool true, iz g, .slice (some ⟨nb, 0, none⟩) xs.length cap] 102 (0, 0)) ∧ w'.ownsRow 0 3 1 (.slice (some ⟨nb, 0, none⟩) xs.length cap) xs.length (xs.map fun s : Nat => iz s) ∧ W.heap.size ≤ nb ∧ W.heap.size ≤ b9 ∧ nb ≠ b9
theorem Fl.done {W V : World} {nb cap b9 : Nat} {c g : Int} {xs : List Nat} (h : Fl W V (.slice (some ⟨nb, 0, none⟩) xs.length cap) xs (some b9)) :
    JoinAt W c g xs (.pointer (some ⟨b9, 0, none⟩)) (V.setRow b9 #[iz c, .bool true, iz g, .slice (some ⟨nb, 0, none⟩) xs.length cap]) := by
  obtain ⟨h1, h2, h3⟩ := h.fl _ rfl
  have h4 : nb ≠ b9 := fun e => h3 (by rw [e]; rfl)
  exact ⟨nb, cap, b9, rfl, ext_setRow h.ext _ _ (.inr h2), setRow_heap9 h1, ownsRow_ext h.own (ext_setRow (Ext.refl [b9] _) _ _ (.inl (by simp))) (fun q hq => by
    have : nb = q := by simpa [Value.ownBlock] using hq
    subst this
    simpa using h4), h.new nb (by simp [Value.ownBlock]), h2, h4⟩
theorem incF_bd (T : List Nat) (M : List Int) (B : Int) (hn : T.Nodup) (hM : ∀ y ∈ M, 0 ≤ y ∧ y ≤ B) : ∀ y ∈ incF M T, 0 ≤ y ∧ y ≤ B + 1 := fun y hy => by
  obtain ⟨s, hs⟩ := List.getElem?_of_mem hy
  have hsl : s < M.length := by have := (List.getElem?_eq_some_iff.1 hs).1; rw [incF_len] at this; exact this
  rw [incF_at T M s hn hsl] at hs
  have := Option.some.inj hs
  have h2 := hM (M.getD s 0) (by rw [List.getD_eq_getElem?_getD, List.getElem?_eq_getElem hsl]; exact List.getElem_mem hsl)
  split at this <;> omega
theorem incF_app : ∀ (T U : List Nat) (M : List Int), incF M (T ++ U) = incF (incF M T) U
  | [], _, _ => rfl
  | s :: T, U, M => by rw [List.cons_append, incF, incF, incF_app T U]
theorem incF_snoc (M : List Int) (T : List Nat) (i s : Nat) (h : T[i]? = some s) : incF M (T.take (i + 1)) = (incF M (T.take i)).set s ((incF M (T.take i)).getD s 0 + 1) := by
  rw [List.take_add_one, h, Option.toList_some, incF_app, incF, incF]
/-- a join of two of a wood's nodes: their parts -/
theorem RL.part {w : World} {v : Value} {N : List Nat} {Z E : List Zn} {a : Nd} {pa : Value} (h : RL w v N Z E) (hm : (a, pa) ∈ Z) : ∃ b cap, pa = .slice (some ⟨b, 0, none⟩) (syms a).length cap ∧ b ∈ N ∧ ∀ i s, (syms a)[i]? = some s → w.cell? ⟨b, i, none⟩ = some (iz (s : Nat)) :=
  h.parts (a, pa) (List.mem_append_left _ hm)
theorem row_keep {w w' : World} {E : TypeId} {k n : Nat} {v : Value} {xs : List Value} (hx : Ext [] w w') (h : w.ownsRow 0 E k v n xs) : w'.ownsRow 0 E k v n xs := ownsRow_ext h hx (by simp)
theorem leaves_le : ∀ (l : List Int) (k : Nat), (leavesF l k).length ≤ l.length
  | [], _ => Nat.le_refl _
  | c :: l, k => by
    have := leaves_le l (k + 1)
    rw [leavesF]
    split <;> simp <;> omega
theorem syms_lt (n : Nat) : ∀ x : Nd, NdS n x → ∀ s ∈ syms x, s < n
  | .leaf c u, h, s, hs => by rw [syms_leaf', List.mem_singleton] at hs; subst hs; exact h
  | .join c g a b, h, s, hs => by
    rw [syms_join, List.mem_append] at hs
    rcases hs with hs | hs
    · exact syms_lt n a h.1 s hs
    · exact syms_lt n b h.2 s hs
theorem nodup_le : ∀ (n : Nat) (L : List Nat), L.Nodup → (∀ x ∈ L, x < n) → L.length ≤ n
  | 0, [], _, _ => Nat.le_refl _
  | 0, x :: _, _, h => absurd (h x (by simp)) (by omega)
  | n + 1, L, hn, h => by
    have h1 := nodup_le n (L.erase n) (hn.erase n) (fun x hx => by
      have h2 := (List.Nodup.mem_erase_iff hn).1 hx
      have := h x h2.2
      have := h2.1
      omega)
    rw [List.length_erase] at h1
    split at h1 <;> omega
theorem RL.joined {wr W5 wc : World} {v v2 : Value} {N : List Nat} {Z Z2 : List Zn} {J : Nd} {nb cap : Nat} (h : RL wr v N Z []) (hsub : ∀ p ∈ Z2, p ∈ Z) (hx5 : Ext [] wr W5) (hr2 : W5.ownsRow 0 102 4 v2 Z2.length (rowC Z2)) (hf2 : ∀ k ∈ v2.ownBlock.toList, wr.heap.size ≤ k) (hx7 : Ext [] W5 wc)
    (ho7 : wc.ownsRow 0 3 1 (.slice (some ⟨nb, 0, none⟩) (syms J).length cap) (syms J).length ((syms J).map fun s : Nat => iz s)) (hn1 : W5.heap.size ≤ nb) :
    RL wc v2 (nb :: N) Z2 [(J, .slice (some ⟨nb, 0, none⟩) (syms J).length cap)] ∧ Fr wr (v.ownBlock.toList ++ N) (v2.ownBlock.toList ++ nb :: N) := by
  have hs5 := hx5.size
  refine ⟨⟨row_keep hx7 hr2, fun p hp => ?_, fun k hk hm => ?_, fun k hk => ?_⟩, fun k hk => ?_⟩
  · rcases List.mem_append.1 hp with hp | hp
    · exact ((h.parts p (by simp [hsub p hp])).ext (hx5.trans hx7) (by simp)).more (fun k hk => by simp [hk])
    · rw [List.mem_singleton] at hp
      subst hp
      refine ⟨nb, cap, rfl, by simp, fun i s hi => ownsRow_at ho7 (by rw [List.getElem?_map, hi]; rfl)⟩
  · have h1 := hf2 k hk
    have h2 := (hr2.lt k (by simpa using hk)).2
    rcases List.mem_cons.1 hm with rfl | hm
    · omega
    · have := h.lt k hm; omega
  · rcases List.mem_cons.1 hk with rfl | hk
    · exact (ho7.lt k (by simp [Value.ownBlock])).2
    · have := h.lt k hk; have := hx7.size; omega
  · rcases List.mem_append.1 hk with hk | hk
    · exact .inr (hf2 k hk)
    · rcases List.mem_cons.1 hk with rfl | hk
      · exact .inr (by omega)
      · exact .inl (by simp [hk])
theorem tri_srt {g : Nat} {c : Int} {a b : Nd} {S : List Nd} (hs : Srt (a :: b :: S)) (hy : Young g (a :: b :: S)) : Srt (insS (.join c g a b) S) :=
  insS_srt _ _ (List.pairwise_cons.1 (List.pairwise_cons.1 hs).2).2 (tri_join (fun y h hm => hy y (by simp [h]) hm))
end Go.Proofs.Ytchhgbhbldfofaa.Hu
