/-
  tree: first, under, Array walked.
-/
import Derived.Test.YtkjcjklnclahdaaDoorTrK
import Derived.Test.YtkjcjklnclahdaaDoorTrH
namespace Go.Proofs.YtkjcjklnclahdaaDoor.Tr
open Go.RowKit

/-- a row of trees -/
def TreesIn (w : World) (base : Option Addr) (ls : List (List Nd)) : Prop := ∀ i (h : i < ls.length), ∃ b o vk, base = some ⟨b, o, none⟩ ∧ w.cell? ⟨b, o + i, none⟩ = some vk ∧ NodesAt w vk (ls[i]'h)
def TreesAt (w : World) (v : Value) (ls : List (List Nd)) : Prop := ∃ base cap, v = .slice base ls.length cap ∧ ls.length ≤ cap ∧ TreesIn w base ls
theorem TreesIn.ext {w w' : World} {base : Option Addr} {ls : List (List Nd)} (h : TreesIn w base ls) (hx : Ext [] w w') : TreesIn w' base ls := fun i hi => by
  obtain ⟨b, o, vk, h1, h2, h3⟩ := h i hi
  exact ⟨b, o, vk, h1, hx.cell h2, h3.ext hx⟩
theorem TreesAt.ext {w w' : World} {v : Value} {ls : List (List Nd)} (h : TreesAt w v ls) (hx : Ext [] w w') : TreesAt w' v ls := by
  obtain ⟨base, cap, h1, h0, h2⟩ := h
  exact ⟨base, cap, h1, h0, h2.ext hx⟩
theorem check_zero {l : List Nd} (h : checkN l = 0) : 0 < l.length ∧ l.length ≤ 65536 ∧ ∃ E D, shapeN l = some (E, D) ∧ Lib.maxOf D ≤ 256 ∧ l.all (nodeOk l) = true := by
  unfold checkN at h
  split at h
  · cases h
  · rename_i hn
    split at h
    · cases h
    · rename_i E D hs
      split at h
      · cases h
      · rename_i hm
        split at h
        · rename_i ha
          exact ⟨(shape_some hs).1, by omega, _, D, hs, by omega, ha⟩
        · cases h
/-- the first tree's error -/
def firstN : List (List Nd) → Int
  | [] => 0
  | l :: r => if checkN l = 0 then firstN r else checkN l
def light6 (ls : List (List Nd)) : Prop := ∀ l ∈ ls, l.length ≤ 9223372036854775807 ∧ ∀ x ∈ l, x.s.size ≤ 1000000
theorem firstN_zero : ∀ {ls : List (List Nd)}, firstN ls = 0 → ∀ l ∈ ls, checkN l = 0
  | [], _, l, hl => by cases hl
  | x :: r, h, l, hl => by
    unfold firstN at h
    split at h
    · rename_i hx
      rcases List.mem_cons.1 hl with rfl | hl
      · exact hx
      · exact firstN_zero h l hl
    · rename_i hx
      exact absurd h hx
set_option maxRecDepth 100000 in
set_option maxHeartbeats 8000000 in
theorem first_walk (v : Value) (ls : List (List Nd)) (w : World) (h : TreesAt w v ls) (hn : ls.length ≤ 1048576) (hls : light6 ls) :
    Calls Tryd.prog 35 #[v] w fun e w' => e = .returned (.int .i64 (firstN ls)) ∧ Ext [] w w' := by
  obtain ⟨base, cap, rfl, -, hT⟩ := h
  obtain ⟨n, hln⟩ : ∃ n, ls.length = n := ⟨_, rfl⟩
  obtain ⟨R, hR⟩ : ∃ R, firstN ls = R := ⟨_, rfl⟩
  have HH := Lib.hid (⟨hT, hls, hln, hR⟩ : _ ∧ _ ∧ _ ∧ _)
  rw [hR]
  rw [hln] at hn ⊢
  clear hT hls hln hR
  go_enter Tryd.func35, Tryd.ntmps35
  go_wp2_with fail
  go_loopg [2, 8] n (fun g v2 iv wr => ∃ i : Nat, g + i = n ∧ iv = .int .i64 i ∧ firstN (ls.drop i) = R ∧ Ext [] w wr)
  case atStart => exact ⟨0, by omega, rfl, HH.out.2.2.2, Ext.refl _ _⟩
  case round =>
    obtain ⟨i, hgi, rfl, hR, hx⟩ := hrel
    by_cases hlt : i < n
    · obtain ⟨g, rfl⟩ : ∃ g, gk = g + 1 := ⟨gk - 1, by omega⟩
      have hltz : (i : Int) < (n : Int) := by omega
      have hil : i < ls.length := by rw [HH.out.2.2.1]; exact hlt
      rw [drop_at ls i hil, firstN] at hR
      obtain ⟨b, o, vk, rfl, hc, hN⟩ := HH.out.1.ext hx i hil
      obtain ⟨h1, h2⟩ := HH.out.2.1 _ (List.getElem_mem hil)
      have HC := Lib.hid (check_walk vk _ wr hN h1 h2)
      have HX := Lib.hid (⟨hx, hR⟩ : _ ∧ _)
      clear hx hR hN h1 h2
      generalize checkN (ls[i]'hil) = e at HC HX
      go_wp2_with fail
      refine HC.out.mono ?_
      rintro ee w2 ⟨rfl, hx2⟩
      have HX2 := Lib.hid (HX.out.1.trans hx2)
      clear hx2 HC hc
      by_cases he : e = 0
      · subst he
        go_wp2_with fail
        go_roundg g
        case measure => omega
        case rel => exact ⟨i + 1, by omega, by go_num, by simpa using HX.out.2, HX2.out⟩
      · have heb : (e != 0) = true := bne_iff_ne.2 he
        have hR : R = e := by have := HX.out.2; rw [if_neg he] at this; exact this.symm
        subst hR
        go_wp2_with fail
        go_ret
        exact ⟨rfl, HX2.out⟩
    · obtain rfl : gk = 0 := by omega
      have hR0 : R = 0 := by rw [← hR, List.drop_eq_nil_of_le (by rw [HH.out.2.2.1]; omega)]; rfl
      subst hR0
      have HX := Lib.hid hx
      clear hx hR
      go_wp2_with fail
      go_ret
      exact ⟨rfl, HX.out⟩
/-- the first node has a kid more -/
theorem BdP.kid {w w1 : World} {b g5 c5 g6 cap2 : Nat} {x : Nd} {kv : Value} {Z : List Zd} {c : Int} {O : Obj} (h : BdP w b (.slice (some ⟨g5, 0, none⟩) (Z.length + 1) c5) ((x, kv) :: Z))
    (hown : w1.ownsRow 0 3 1 (.slice (some ⟨g6, 0, none⟩) (x.kids.length + 1) cap2) (x.kids.length + 1) (x.kids.map iz ++ [.int .i64 c])) (hgrow : (w.alloc O).grownBy w1 kv.ownBlock) (hat : kv.ownBlock = some g6 ∨ g6 = w.heap.size + 1)
    (hc : -9223372036854775808 ≤ c ∧ c ≤ 9223372036854775807) (hkl : x.kids.length + 1 ≤ 9223372036854775807) :
    BdP (w1.setCell ⟨g5, 4, none⟩ (.slice (some ⟨g6, 0, none⟩) (x.kids.length + 1) cap2)) b (.slice (some ⟨g5, 0, none⟩) (Z.length + 1) c5) (({ x with kids := x.kids ++ [c] }, .slice (some ⟨g6, 0, none⟩) (x.kids.length + 1) cap2) :: Z) ∧
    Ext (bdF b (.slice (some ⟨g5, 0, none⟩) (Z.length + 1) c5) ((x, kv) :: Z)) w (w1.setCell ⟨g5, 4, none⟩ (.slice (some ⟨g6, 0, none⟩) (x.kids.length + 1) cap2)) ∧
    Fr w (bdF b (.slice (some ⟨g5, 0, none⟩) (Z.length + 1) c5) ((x, kv) :: Z)) (bdF b (.slice (some ⟨g5, 0, none⟩) (Z.length + 1) c5) (({ x with kids := x.kids ++ [c] }, .slice (some ⟨g6, 0, none⟩) (x.kids.length + 1) cap2) :: Z)) := by
  have lt := (oBd b _ _).lt h
  have hd := h.dup
  have hF : bdF b (.slice (some ⟨g5, 0, none⟩) (Z.length + 1) c5) ((x, kv) :: Z) = b :: g5 :: (kv.ownBlock.toList ++ Z.flatMap fun p => p.2.ownBlock.toList) := by simp [bdF, Value.ownBlock]
  have hF2 : bdF b (.slice (some ⟨g5, 0, none⟩) (Z.length + 1) c5) (({ x with kids := x.kids ++ [c] }, .slice (some ⟨g6, 0, none⟩) (x.kids.length + 1) cap2) :: Z) = b :: g5 :: g6 :: (Z.flatMap fun p => p.2.ownBlock.toList) := by simp [bdF, Value.ownBlock]
  have ltF : ∀ k ∈ b :: g5 :: (kv.ownBlock.toList ++ Z.flatMap fun p => p.2.ownBlock.toList), k < w.heap.size := fun k hk => lt k (by show k ∈ bdF _ _ _; rw [hF]; exact hk)
  rw [hF] at hd ⊢
  rw [hF2]
  rw [List.nodup_cons, List.nodup_cons, List.nodup_append] at hd
  obtain ⟨d1, d2, d3, d4, d5⟩ := hd
  have g6n : ∀ k, k < w.heap.size → kv.ownBlock ≠ some k → g6 ≠ k := fun k hk hne e => by
    subst e
    rcases hat with q | q
    · exact hne q
    · omega
  have k5 : kv.ownBlock ≠ some g5 := fun e => d2 (List.mem_append_left _ (by simp [e]))
  have kb : kv.ownBlock ≠ some b := fun e => d1 (List.mem_cons_of_mem _ (List.mem_append_left _ (by simp [e])))
  have h65 : g6 ≠ g5 := g6n g5 (ltF g5 (by simp)) k5
  have h6b : g6 ≠ b := g6n b (ltF b (by simp)) kb
  have hbg : b ≠ g5 := fun e => d1 (by simp [e])
  have hx : Ext kv.ownBlock.toList w w1 := ((Ext.refl _ w).alloc _).grown hgrow (fun k hk => .inl (by simp [hk]))
  have hrow : w1.ownsRow 0 37 5 (.slice (some ⟨g5, 0, none⟩) (Z.length + 1) c5) (Z.length + 1) (rowN ((x, kv) :: Z)) := ownsRow_ext h.row hx (fun g hg hm => by
    obtain rfl : g5 = g := by simpa [Value.ownBlock] using hg
    exact k5 (by simpa using hm))
  refine ⟨⟨?_, ?_, fun p hp => ?_, ?_, fun p hp => ?_⟩, ?_, fun k hk => ?_⟩
  · rw [heap_setCell_ne _ hbg]
    exact hx.keep h.here (by simpa using kb)
  · have h2 := row_put (i := 4) hrow (.slice (some ⟨g6, 0, none⟩) (x.kids.length + 1) cap2)
    exact h2
  · rcases List.mem_cons.1 hp with rfl | hp
    · have h2 := ownsRow_setCell_other hown (a := ⟨g5, 4, none⟩) (fun e => h65 (by simpa [Value.ownBlock] using e)) (.slice (some ⟨g6, 0, none⟩) (x.kids.length + 1) cap2)
      show (w1.setCell _ _).ownsRow 0 3 1 _ (x.kids ++ [c]).length ((x.kids ++ [c]).map iz)
      rw [List.length_append, List.map_append]
      exact h2
    · have hk0 := h.kids p (List.mem_cons_of_mem _ hp)
      have h1 := ownsRow_ext hk0 hx (fun g hg hm => d5 g (by simpa using hm) g (mem_kidF hp hg) rfl)
      refine ownsRow_setCell_other h1 (fun e => ?_) _
      exact d2 (List.mem_append_right _ (mem_kidF hp e))
  · rw [hF2, List.nodup_cons, List.nodup_cons, List.nodup_cons]
    refine ⟨?_, ?_, ?_, d4⟩
    · intro hm
      rcases List.mem_cons.1 hm with e | hm
      · exact hbg e
      · rcases List.mem_cons.1 hm with e | hm
        · exact h6b e.symm
        · exact d1 (List.mem_cons_of_mem _ (List.mem_append_right _ hm))
    · intro hm
      rcases List.mem_cons.1 hm with e | hm
      · exact h65 e.symm
      · exact d2 (List.mem_append_right _ hm)
    · intro hm
      rcases hat with q | q
      · exact d5 g6 (by simp [q]) g6 hm rfl
      · have := ltF g6 (List.mem_cons_of_mem _ (List.mem_cons_of_mem _ (List.mem_append_right _ hm))); omega
  · rcases List.mem_cons.1 hp with rfl | hp
    · have hw := h.wf (x, kv) (by simp)
      refine ⟨hw.n, hw.s, by show (x.kids ++ [c]).length ≤ _; rw [List.length_append]; exact hkl, fun k hk => ?_⟩
      rcases List.mem_append.1 hk with hk | hk
      · exact hw.kids k hk
      · obtain rfl : k = c := by simpa using hk
        exact hc
    · exact h.wf p (List.mem_cons_of_mem _ hp)
  · refine (hx.mono (fun k _ hk => ?_)).setCell _ _ (.inl (by simp))
    exact List.mem_cons_of_mem _ (List.mem_cons_of_mem _ (List.mem_append_left _ hk))
  · rcases List.mem_cons.1 hk with rfl | hk
    · exact .inl (by simp)
    · rcases List.mem_cons.1 hk with rfl | hk
      · exact .inl (by simp)
      · rcases List.mem_cons.1 hk with rfl | hk
        · rcases hat with q | q
          · exact .inl (by simp [q])
          · exact .inr (by omega)
        · exact .inl (List.mem_cons_of_mem _ (List.mem_cons_of_mem _ (List.mem_append_right _ hk)))
/-! ### a root with values behind it -/
def rootN (kind : Int) (K : List Int) : Nd := ⟨kind, 0, 0, ⟨#[]⟩, K⟩
def underF (kind : Int) : List (List Nd) → List Int → List Nd → List Nd × Int
  | [], K, M => if checkN (rootN kind K :: M) = 0 then (rootN kind K :: M, 0) else ([], checkN (rootN kind K :: M))
  | x :: r, K, M => if 65536 < 1 + M.length + x.length then ([], 3) else underF kind r (K ++ [((1 + M.length : Nat) : Int)]) (M ++ x.map (moveN ((1 + M.length : Nat) : Int)))
def underN (kind : Int) (ls : List (List Nd)) : List Nd × Int := underF kind ls [] []
end Go.Proofs.YtkjcjklnclahdaaDoor.Tr
