/-
  Plain: the bits that lengths take, symbol by symbol; the merged tree's lengths are least; how deep small counts may lie.
-/
import Derived.Test.YtgjenpdppobpkaaHwA
namespace Go.Proofs.Ytgjenpdppobpkaa.Hu
open Nd

/-! ### positive counts with their symbols -/
def Zs (l : List Int) (k : Nat) : List (Int × Nat) := ((l.zipIdx k).filter fun p => decide (0 < p.1)).map fun p => (p.1, p.2)
theorem Zs_cons (c : Int) (l : List Int) (k : Nat) : Zs (c :: l) k = if 0 < c then (c, k) :: Zs l (k + 1) else Zs l (k + 1) := by
  unfold Zs
  rw [List.zipIdx_cons, List.filter_cons]
  by_cases h : 0 < c
  · rw [if_pos h]; simp [h]
  · rw [if_neg h]; simp [h]
/-- the bits that lengths take -/
def dot : List Int → List Int → Nat → Int
  | [], _, _ => 0
  | c :: l, O, k => c * O.getD k 0 + dot l O (k + 1)
def wlO (Z : List (Int × Nat)) (O : List Int) : List Wl := Z.map fun p => (p.1, (O.getD p.2 0).toNat)
theorem dot_cost (O : List Int) (hO : ∀ y ∈ O, 0 ≤ y) : ∀ (l : List Int) (k : Nat), (∀ c ∈ l, 0 ≤ c) → dot l O k = costP (wlO (Zs l k) O)
  | [], k, _ => rfl
  | c :: l, k, h => by
    have ih := dot_cost O hO l (k + 1) (fun x hx => h x (by simp [hx]))
    have hc := h c (by simp)
    rw [dot, Zs_cons, ih]
    have h0 : 0 ≤ O.getD k 0 := by
      rw [List.getD_eq_getElem?_getD]
      cases hk : O[k]? with
      | none => simp
      | some y => simpa using hO y (List.mem_of_getElem? hk)
    by_cases hp : 0 < c
    · rw [if_pos hp]
      show _ = costP ((c, (O.getD k 0).toNat) :: wlO (Zs l (k + 1)) O)
      rw [costP]
      show _ = c * (((O.getD k 0).toNat : Nat) : Int) + _
      rw [Int.toNat_of_nonneg h0]
    · rw [if_neg hp, show c = 0 by omega, Int.zero_mul, Int.zero_add]
theorem kr_wl (O : List Int) : ∀ (l : List Int) (k : Nat), (∀ i c, l[i]? = some c → 0 < c → 0 < O.getD (k + i) 0) → krP (wlO (Zs l k) O) ≤ kraS (O.drop k)
  | [], k, _ => Nat.zero_le _
  | c :: l, k, h => by
    have ih := kr_wl O l (k + 1) (fun i c' hi hc => by have := h (i + 1) c' (by simpa using hi) hc; rwa [show k + (i + 1) = k + 1 + i by omega] at this)
    rw [Zs_cons]
    have hstep : kraS (O.drop (k + 1)) ≤ kraS (O.drop k) := by
      by_cases hk : k < O.length
      · rw [List.drop_eq_getElem_cons hk, kraS]; omega
      · rw [List.drop_eq_nil_of_le (by omega), List.drop_eq_nil_of_le (by omega)]; exact Nat.le_refl _
    by_cases hp : 0 < c
    · have h1 := h 0 c (by simp) hp
      rw [Nat.add_zero] at h1
      have hk : k < O.length := by
        refine Nat.lt_of_not_le fun hk => ?_
        rw [List.getD_eq_getElem?_getD, List.getElem?_eq_none hk] at h1
        simp at h1
      have hg : O.getD k 0 = O[k] := by rw [List.getD_eq_getElem?_getD, List.getElem?_eq_getElem hk]; rfl
      rw [if_pos hp, List.drop_eq_getElem_cons hk, kraS, ← hg, if_pos h1]
      show krP ((c, (O.getD k 0).toNat) :: wlO (Zs l (k + 1)) O) ≤ _
      rw [krP]
      show 2 ^ (15 - (O.getD k 0).toNat) + _ ≤ _
      omega
    · rw [if_neg hp]
      exact Nat.le_trans ih hstep
/-! ### the tree's lengths -/
theorem tree_wl (l : List Int) (h : 2 ≤ (leavesF l 0).length) : (wlT (lvs (treeN l) 0)).Perm (wlO (Zs l 0) (deepN l)) := by
  have h1 := (tree_lfs l (by omega)).map (fun p : Int × Nat => (p.1, ((deepN l).getD p.2 0).toNat))
  rw [← lvs_lfs (treeN l) 0, List.map_map] at h1
  refine List.Perm.trans (List.Perm.of_eq ?_) h1
  unfold wlT
  refine List.map_congr_left (fun t ht => ?_)
  show (t.1, t.2.2) = (t.1, ((deepN l).getD t.2.1 0).toNat)
  have hm : (t.1, t.2.1) ∈ lfs (treeN l) := by rw [← lvs_lfs (treeN l) 0]; exact List.mem_map.2 ⟨t, ht, rfl⟩
  have hz := (zip_pos l 0 t.1 t.2.1).1 ((tree_lfs l (by omega)).mem_iff.1 hm)
  rw [Nat.sub_zero] at hz
  rcases deepN_at l h t.2.1 t.1 hz.2.1 with ⟨h2, _⟩ | ⟨_, d, h3, h4⟩
  · omega
  · have hd : d = t.2.2 := by
      have hn := tree_nodup l (by omega : 0 < (leavesF l 0).length)
      obtain ⟨i, hi⟩ := List.getElem?_of_mem h3
      obtain ⟨j, hj⟩ := List.getElem?_of_mem ht
      have hil := (List.getElem?_eq_some_iff.1 hi).1
      have e : ((lvs (treeN l) 0).map (·.2.1))[i]? = ((lvs (treeN l) 0).map (·.2.1))[j]? := by rw [List.getElem?_map, List.getElem?_map, hi, hj]; rfl
      have hij := (List.getElem?_inj (by simpa using hil) hn).1 e
      subst hij
      rw [hi] at hj
      have := Option.some.inj hj
      rw [← this]
    rw [List.getD_eq_getElem?_getD, h4, hd]
    rfl
theorem cns_tree (l : List Int) (h : 0 < (leavesF l 0).length) : Cns (treeN l) := by
  have h1 := cns_mrg (leavesF l 0).length 0 (srtS (leavesF l 0)) (fun x hx => by
    obtain ⟨c, s, rfl, _⟩ := leavesF_mem l 0 x ((srtS_perm _).mem_iff.1 hx)
    exact trivial)
  rw [tree_mrg l h] at h1
  exact h1 _ (by simp)
theorem deepN_nn (l : List Int) : ∀ y ∈ deepN l, 0 ≤ y := fun y hy => by
  by_cases hk : 2 ≤ (leavesF l 0).length
  · obtain ⟨s, hys⟩ := List.getElem?_of_mem hy
    have hsl : s < l.length := by have := (List.getElem?_eq_some_iff.1 hys).1; rw [deepN_len] at this; exact this
    rcases deepN_at l hk s _ (List.getElem?_eq_getElem hsl) with ⟨_, h2⟩ | ⟨_, d, h2, h3⟩
    · rw [hys] at h2; have := Option.some.inj h2; omega
    · rw [hys] at h3; have := Option.some.inj h3; omega
  · match hleaf : leavesF l 0, hk with
    | [], _ =>
      rw [deepN_more (by rw [hleaf]; simp), hleaf] at hy
      have : y = 0 := List.eq_of_mem_replicate hy
      omega
    | [x], _ =>
      rw [deepN_one hleaf] at hy
      rcases mem_set_cases hy with hy | hy
      · have : y = 0 := List.eq_of_mem_replicate hy
        omega
      · omega
    | _ :: _ :: _, hk => simp at hk
theorem leaves_zs : ∀ (l : List Int) (k : Nat), (leavesF l k).map cnt = (Zs l k).map (·.1)
  | [], _ => rfl
  | c :: l, k => by
    rw [leavesF, Zs_cons]
    split
    · rw [List.map_cons, List.map_cons, leaves_zs l (k + 1)]; rfl
    · exact leaves_zs l (k + 1)
theorem icL_leaves : ∀ (L : List Nd), (∀ x ∈ L, ∃ c s, x = .leaf c s) → icL L = 0
  | [], _ => rfl
  | x :: L, h => by
    obtain ⟨c, s, rfl⟩ := h x (by simp)
    rw [icL, ic, icL_leaves L (fun y hy => h y (by simp [hy]))]
    rfl
/-- two counts or more: no other lengths take fewer bits -/
theorem least (l O : List Int) (hl : ∀ c ∈ l, 0 ≤ c) (hk : 2 ≤ (leavesF l 0).length) (hO : ∀ y ∈ O, 0 ≤ y ∧ y ≤ 15) (hkr : kraS O ≤ 32768) (hp : ∀ i c, l[i]? = some c → 0 < c → 0 < O.getD i 0) :
    dot l (deepN l) 0 ≤ dot l O 0 := by
  have hlv : ∀ x ∈ srtS (leavesF l 0), ∃ c s, x = .leaf c s ∧ 0 < c := fun x hx => by
    obtain ⟨c, s, e, _, _, hc, _⟩ := leavesF_mem l 0 x ((srtS_perm _).mem_iff.1 hx)
    exact ⟨c, s, e, hc⟩
  have h1 := opt (leavesF l 0).length 0 (srtS (leavesF l 0)) (wlO (Zs l 0) O) (srtS_cs _) (fun x hx => by
    obtain ⟨c, s, rfl, hc⟩ := hlv x hx
    rw [cnt]; omega) (by
    have e : (wlO (Zs l 0) O).map (·.1) = (Zs l 0).map (·.1) := by unfold wlO; rw [List.map_map]; rfl
    rw [e, ← leaves_zs]
    exact ((srtS_perm _).map cnt).symm) (fun p hp => by
    obtain ⟨q, hq, rfl⟩ := List.mem_map.1 hp
    show (O.getD q.2 0).toNat ≤ 15
    rw [List.getD_eq_getElem?_getD]
    cases hq2 : O[q.2]? with
    | none => simp
    | some y => have := hO y (List.mem_of_getElem? hq2); simp; omega) (Nat.le_trans (kr_wl O l 0 (fun i c hi hc => by rw [Nat.zero_add]; exact hp i c hi hc)) (by rw [List.drop_zero]; exact hkr))
  have hz : icL (srtS (leavesF l 0)) = 0 := icL_leaves _ (fun x hx => by obtain ⟨c, s, e, _⟩ := hlv x hx; exact ⟨c, s, e⟩)
  rw [tree_mrg l (by omega), hz, icL, icL] at h1
  have h2 := cost_tree (treeN l) 0 (cns_tree l (by omega))
  rw [costP_perm (tree_wl l hk)] at h2
  rw [dot_cost _ (deepN_nn l) l 0 hl, dot_cost _ (fun y hy => (hO y hy).1) l 0 hl, h2]
  simp
  omega
/-- the lengths of two counts or more are full -/
theorem kra_zeros : ∀ l : List Int, (∀ x ∈ l, x = 0) → kraS l = 0
  | [], _ => rfl
  | x :: l, h => by
    rw [kraS, h x (by simp), kra_zeros l (fun y hy => h y (by simp [hy]))]
    rfl
theorem kr_eq (O : List Int) : ∀ (l : List Int) (k : Nat), k + l.length = O.length → (∀ i c, l[i]? = some c → (0 < c ↔ 0 < O.getD (k + i) 0)) → krP (wlO (Zs l k) O) = kraS (O.drop k)
  | [], k, hl, _ => by rw [List.drop_eq_nil_of_le (by simp at hl; omega)]; rfl
  | c :: l, k, hl, h => by
    rw [List.length_cons] at hl
    have ih := kr_eq O l (k + 1) (by omega) (fun i c' hi => by have := h (i + 1) c' (by simpa using hi); rwa [show k + (i + 1) = k + 1 + i by omega] at this)
    have hk : k < O.length := by omega
    have hg : O.getD k 0 = O[k] := by rw [List.getD_eq_getElem?_getD, List.getElem?_eq_getElem hk]; rfl
    have h1 := h 0 c (by simp)
    rw [Nat.add_zero] at h1
    rw [Zs_cons, List.drop_eq_getElem_cons hk, kraS, ← hg, ← ih]
    by_cases hp : 0 < c
    · rw [if_pos hp, if_pos (h1.1 hp)]
      rfl
    · rw [if_neg hp, if_neg (fun h2 => hp (h1.2 h2)), Nat.zero_add]
theorem full_deep (l : List Int) (hk : 2 ≤ (leavesF l 0).length) (h15 : ∀ y ∈ deepN l, y ≤ 15) : kraS (deepN l) = 32768 := by
  have h1 := kr_eq (deepN l) l 0 (by rw [deepN_len, Nat.zero_add]) (fun i c hi => by
    rw [Nat.zero_add, List.getD_eq_getElem?_getD]
    rcases deepN_at l hk i c hi with ⟨h1, h2⟩ | ⟨h1, d, h2, h3⟩
    · rw [h2]; simp; omega
    · rw [h3]
      simp only [Option.getD_some]
      have : 0 < d := by
        have hd := lvs_pos (treeN l) 0 _ h2
        cases ht : treeN l with
        | leaf c s =>
          have e := tree_lfs l (by omega : 0 < (leavesF l 0).length)
          rw [ht] at e
          have e2 := e.length_eq
          have e3 := congrArg List.length (leaves_zs l 0)
          simp only [List.length_map] at e3
          unfold Zs at e3
          rw [List.length_map] at e3 e2
          simp [lfs] at e2
          omega
        | join c g a b =>
          rw [ht, lvs] at h2
          rcases List.mem_append.1 h2 with h | h
          · have := lvs_pos a _ _ h; simp only at this; omega
          · have := lvs_pos b _ _ h; simp only at this; omega
      omega)
  rw [List.drop_zero] at h1
  rw [← h1, ← krP_perm (tree_wl l hk), kr_tree (treeN l) 0 (fun t ht => ?_)]
  have hm : (t.1, t.2.1) ∈ lfs (treeN l) := by rw [← lvs_lfs (treeN l) 0]; exact List.mem_map.2 ⟨t, ht, rfl⟩
  have hw := (tree_wl l hk).mem_iff.1 (List.mem_map.2 ⟨t, ht, rfl⟩)
  obtain ⟨p, hp, e⟩ := List.mem_map.1 hw
  have e2 : ((deepN l).getD p.2 0).toNat = t.2.2 := by have := congrArg Prod.snd e; simpa using this
  rw [← e2, List.getD_eq_getElem?_getD]
  cases hq : (deepN l)[p.2]? with
  | none => simp
  | some y => have := h15 y (List.mem_of_getElem? hq); simp; omega
/-! ### how deep -/
def fibN : Nat → Nat
  | 0 => 1
  | 1 => 2
  | n + 2 => fibN (n + 1) + fibN n
def chd : Nd → Int
  | .leaf _ _ => 0
  | .join _ _ a b => max a.cnt b.cnt
structure Fb (L : List Nd) : Prop where
  pos : ∀ x ∈ L, 0 < x.cnt
  low : ∀ x ∈ L, (fibN (hgt x) : Int) ≤ x.cnt ∧ (0 < hgt x → (fibN (hgt x - 1) : Int) ≤ chd x)
  kid : ∀ x ∈ L, ∀ y ∈ L, chd x ≤ y.cnt
theorem fib_mono : ∀ n, fibN n ≤ fibN (n + 1)
  | 0 => by decide
  | n + 1 => by rw [show fibN (n + 1 + 1) = fibN (n + 1) + fibN n from rfl]; omega
theorem Fb.step {a b : Nd} {L : List Nd} (h : Fb (a :: b :: L)) (hs : CS (a :: b :: L)) (g : Nat) : Fb (insS (.join (a.cnt + b.cnt) g a b) L) := by
  obtain ⟨s1, s2⟩ := List.pairwise_cons.1 hs
  obtain ⟨s3, s4⟩ := List.pairwise_cons.1 s2
  have hab := s1 b (by simp)
  have pa := h.pos a (by simp)
  have pb := h.pos b (by simp)
  have la := h.low a (by simp)
  have lb := h.low b (by simp)
  have kab := h.kid a (by simp) b (by simp)
  have kba := h.kid b (by simp) a (by simp)
  have hm : ∀ x, x ∈ insS (.join (a.cnt + b.cnt) g a b) L → x = .join (a.cnt + b.cnt) g a b ∨ x ∈ L := fun x hx => by simpa using (insS_perm _ L).mem_iff.1 hx
  have key : ∀ (u v : Nd), hgt v ≤ hgt u → (fibN (hgt u) : Int) ≤ u.cnt → (0 < hgt u → (fibN (hgt u - 1) : Int) ≤ chd u) → chd u ≤ v.cnt → 0 < v.cnt → (fibN (hgt u + 1) : Int) ≤ u.cnt + v.cnt := by
    intro u v _ h1 h2 h3 h4
    cases hu : hgt u with
    | zero =>
      rw [hu] at h1
      have e0 : fibN 0 = 1 := rfl
      have e1 : fibN (0 + 1) = 2 := rfl
      rw [e1]; rw [e0] at h1; omega
    | succ n =>
      rw [hu] at h1 h2
      have h5 := h2 (by omega)
      rw [Nat.add_sub_cancel] at h5
      have e : fibN (n + 1 + 1) = fibN (n + 1) + fibN n := rfl
      rw [e]; push_cast; omega
  refine ⟨fun x hx => ?_, fun x hx => ?_, fun x hx y hy => ?_⟩
  · rcases hm x hx with rfl | hx
    · rw [cnt]; omega
    · exact h.pos x (by simp [hx])
  · rcases hm x hx with rfl | hx
    · rw [hgt, cnt, chd]
      have hmx : max (hgt a) (hgt b) + 1 - 1 = max (hgt a) (hgt b) := by omega
      rw [hmx]
      by_cases hh : hgt b ≤ hgt a
      · rw [Nat.max_eq_left hh]
        exact ⟨key a b hh la.1 la.2 kab pb, fun _ => by omega⟩
      · rw [Nat.max_eq_right (by omega)]
        have := key b a (by omega) lb.1 lb.2 kba pa
        exact ⟨by omega, fun _ => by omega⟩
    · exact h.low x (by simp [hx])
  · rcases hm x hx with rfl | hx
    · rw [chd]
      rcases hm y hy with rfl | hy
      · rw [cnt]; omega
      · have := s1 y (by simp [hy]); have := s3 y hy; omega
    · rcases hm y hy with rfl | hy
      · have := h.kid x (by simp [hx]) a (by simp)
        rw [cnt]; omega
      · exact h.kid x (by simp [hx]) y (by simp [hy])
theorem Fb.mrg : ∀ (k g : Nat) (L : List Nd), Fb L → CS L → Fb (mrgF k g L)
  | 0, _, _, h, _ => h
  | k + 1, _, [], h, _ => h
  | k + 1, _, [_], h, _ => h
  | k + 1, g, a :: b :: L, h, hs => by
    rw [mrgF]
    exact Fb.mrg k (g + 1) _ (h.step hs g) (insS_cs _ _ (List.pairwise_cons.1 (List.pairwise_cons.1 hs).2).2)
theorem fib_mono2 {m n : Nat} (h : m ≤ n) : fibN m ≤ fibN n := by
  induction h with
  | refl => exact Nat.le_refl _
  | step _ ih => exact Nat.le_trans ih (fib_mono _)
theorem small_fit (l : List Int) (hn : l.length ≤ 60) (h : ∀ c ∈ l, 0 ≤ c ∧ c ≤ 20) : okB 15 l = true := by
  unfold okB
  refine decide_eq_true ?_
  by_cases h0 : l.length = 0
  · exact .inl h0
  refine .inr (maxL_le _ _ (by rw [deepN_len]; omega) (fun y hy => ?_))
  by_cases hk : 2 ≤ (leavesF l 0).length
  · obtain ⟨s, hys⟩ := List.getElem?_of_mem hy
    have hsl : s < l.length := by have := (List.getElem?_eq_some_iff.1 hys).1; rw [deepN_len] at this; exact this
    rcases deepN_at l hk s _ (List.getElem?_eq_getElem hsl) with ⟨_, h2⟩ | ⟨_, d, h2, h3⟩
    · rw [hys] at h2; have := Option.some.inj h2; omega
    · rw [hys] at h3
      have hyd := Option.some.inj h3
      have hd := lvs_hgt _ _ _ h2
      simp only [Nat.zero_add] at hd
      have hlv : ∀ x ∈ srtS (leavesF l 0), ∃ c s, x = .leaf c s ∧ 0 < c := fun x hx => by
        obtain ⟨c, s, e, _, _, hc, _⟩ := leavesF_mem l 0 x ((srtS_perm _).mem_iff.1 hx)
        exact ⟨c, s, e, hc⟩
      have hf : Fb (srtS (leavesF l 0)) := ⟨fun x hx => by obtain ⟨c, s, rfl, hc⟩ := hlv x hx; exact hc, fun x hx => by
          obtain ⟨c, s, rfl, hc⟩ := hlv x hx
          refine ⟨?_, fun h => by simp [hgt] at h⟩
          show ((1 : Nat) : Int) ≤ c
          omega, fun x hx y hy => by
          obtain ⟨c, s, rfl, hc⟩ := hlv x hx
          obtain ⟨c2, s2, rfl, hc2⟩ := hlv y hy
          rw [chd, cnt]; omega⟩
      have hm := hf.mrg (leavesF l 0).length 0 _ (srtS_cs _)
      have hsum := sumC_mrg (leavesF l 0).length 0 (srtS (leavesF l 0))
      rw [tree_mrg l (by omega)] at hm hsum
      have hlow := (hm.low (treeN l) (by simp)).1
      rw [sumC_srt, sumC, sumC, Int.add_zero] at hsum
      have hb : ∀ (l : List Int) (k : Nat), (∀ c ∈ l, 0 ≤ c ∧ c ≤ 20) → sumC (leavesF l k) ≤ 20 * l.length := by
        intro l
        induction l with
        | nil => intro k _; simp [leavesF, sumC]
        | cons c l ih =>
          intro k h
          have hc := h c (by simp)
          have := ih (k + 1) (fun d hd => h d (by simp [hd]))
          rw [leavesF, List.length_cons]
          split
          · rw [sumC, cnt]; omega
          · omega
      have hbl := hb l 0 h
      have h15 : hgt (treeN l) ≤ 15 := by
        refine Nat.le_of_not_lt fun hh => ?_
        have h16 := fib_mono2 (show 15 ≤ hgt (treeN l) by omega)
        have e : fibN 15 = 1597 := by decide +kernel
        omega
      omega
  · match hleaf : leavesF l 0, hk with
    | [], _ =>
      rw [deepN_more (by rw [hleaf]; simp), hleaf] at hy
      have : y = 0 := List.eq_of_mem_replicate hy
      omega
    | [x], _ =>
      rw [deepN_one hleaf] at hy
      rcases mem_set_cases hy with hy | hy
      · have : y = 0 := List.eq_of_mem_replicate hy
        omega
      · omega
    | _ :: _ :: _, hk => simp at hk
end Go.Proofs.Ytgjenpdppobpkaa.Hu
