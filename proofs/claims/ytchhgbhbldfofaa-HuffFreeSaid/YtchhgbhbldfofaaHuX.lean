/-
  Plain: counts that are all one make no tree deeper than need be; halving ends ('fitB').
-/
import Derived.Test.YtchhgbhbldfofaaHuW
namespace Go.Proofs.Ytchhgbhbldfofaa.Hu
open Nd

/-- sorted by count -/
def CS (L : List Nd) : Prop := L.Pairwise fun x y => x.cnt ≤ y.cnt
theorem insS_cs (x : Nd) : ∀ L, CS L → CS (insS x L)
  | [], _ => List.pairwise_singleton _ _
  | y :: L, h => by
    obtain ⟨h1, h2⟩ := List.pairwise_cons.1 h
    rw [insS]
    split
    · rename_i hlt
      have hxy : x.cnt ≤ y.cnt := by have := (ndLt_iff x y).1 hlt; omega
      refine List.pairwise_cons.2 ⟨fun z hz => ?_, h⟩
      rcases List.mem_cons.1 hz with rfl | hz
      · exact hxy
      · exact Int.le_trans hxy (h1 z hz)
    · rename_i hlt
      have hyx : y.cnt ≤ x.cnt := by have := (ndLt_false x y).1 (by simpa using hlt); omega
      refine List.pairwise_cons.2 ⟨fun z hz => ?_, insS_cs x L h2⟩
      rcases List.mem_cons.1 ((insS_perm x L).mem_iff.1 hz) with rfl | hz
      · exact hyx
      · exact h1 z hz
theorem srtS_cs : ∀ L, CS (srtS L)
  | [] => List.Pairwise.nil
  | x :: L => insS_cs x _ (srtS_cs L)
theorem sumC_mrg : ∀ (k g : Nat) (L : List Nd), sumC (mrgF k g L) = sumC L
  | 0, _, _ => rfl
  | k + 1, _, [] => rfl
  | k + 1, _, [_] => rfl
  | k + 1, g, a :: b :: L => by
    rw [mrgF, sumC_mrg k (g + 1), sumC_ins, sumC, sumC, cnt]
    omega
def full (t : Int) (x : Nd) : Prop := x.cnt = t ∨ x.cnt = 2 * t
structure Ph (h : Nat) (t : Int) (L : List Nd) : Prop where
  ht : t = 2 ^ h
  each : ∀ x ∈ L, (hgt x ≤ h ∧ t < 2 * x.cnt ∧ x.cnt ≤ t) ∨ (hgt x ≤ h + 1 ∧ t < x.cnt ∧ x.cnt ≤ 2 * t)
  odd : L.Pairwise fun x y => full t x ∨ full t y
  srt : CS L
theorem Ph.small {h : Nat} {t : Int} {a b : Nd} {L : List Nd} (p : Ph h t (a :: b :: L)) (g : Nat) (ha : a.cnt ≤ t) (hb : b.cnt ≤ t) : Ph h t (insS (.join (a.cnt + b.cnt) g a b) L) := by
  have ea := p.each a (by simp)
  have eb := p.each b (by simp)
  obtain ⟨o1, o2⟩ := List.pairwise_cons.1 p.odd
  obtain ⟨o3, o4⟩ := List.pairwise_cons.1 o2
  obtain ⟨s1, s2⟩ := List.pairwise_cons.1 p.srt
  obtain ⟨s3, s4⟩ := List.pairwise_cons.1 s2
  have hab := s1 b (by simp)
  have hbt : b.cnt = t := by
    rcases o1 b (by simp) with h | h
    · unfold full at h; omega
    · unfold full at h; omega
  refine ⟨p.ht, fun x hx => ?_, ?_, insS_cs _ _ s4⟩
  · rcases List.mem_cons.1 ((insS_perm _ L).mem_iff.1 hx) with rfl | hx
    · refine .inr ⟨?_, ?_, ?_⟩
      · rw [hgt]; omega
      · rw [cnt]; omega
      · rw [cnt]; omega
    · exact p.each x (by simp [hx])
  · refine ((insS_perm _ L).pairwise_iff (fun {x y} h => h.symm)).2 (List.pairwise_cons.2 ⟨fun y hy => ?_, o4⟩)
    rcases o1 y (by simp [hy]) with h | h
    · refine .inl (.inr ?_)
      rw [cnt]
      unfold full at h
      omega
    · exact .inr h
theorem Ph.up {h : Nat} {t : Int} {L : List Nd} (p : Ph h t L) (hb : ∀ x ∈ L, t < x.cnt) : Ph (h + 1) (2 * t) L := by
  refine ⟨by rw [p.ht, Int.pow_succ, Int.mul_comm], fun x hx => ?_, ?_, p.srt⟩
  · have := hb x hx
    rcases p.each x hx with h | h
    · omega
    · exact .inl ⟨h.1, by omega, h.2.2⟩
  · refine p.odd.imp_of_mem (fun {x y} hx hy h => ?_)
    have h1 := hb x hx
    have h2 := hb y hy
    rcases h with h | h
    · exact .inl (.inl (h.resolve_left (by omega)))
    · exact .inr (.inl (h.resolve_left (by omega)))
theorem Ph.step {h : Nat} {t : Int} {a b : Nd} {L : List Nd} (p : Ph h t (a :: b :: L)) (g : Nat) : ∃ h' t', Ph h' t' (insS (.join (a.cnt + b.cnt) g a b) L) := by
  have ea := p.each a (by simp)
  have eb := p.each b (by simp)
  obtain ⟨o1, o2⟩ := List.pairwise_cons.1 p.odd
  obtain ⟨o3, o4⟩ := List.pairwise_cons.1 o2
  obtain ⟨s1, s2⟩ := List.pairwise_cons.1 p.srt
  obtain ⟨s3, s4⟩ := List.pairwise_cons.1 s2
  have hab := s1 b (by simp)
  by_cases hb : b.cnt ≤ t
  · exact ⟨h, t, p.small g (by omega) hb⟩
  · by_cases ha : a.cnt ≤ t
    · have big : ∀ y ∈ L, hgt y ≤ h + 1 ∧ t < y.cnt ∧ y.cnt ≤ 2 * t := fun y hy => by
        have h1 := s3 y hy
        rcases p.each y (by simp [hy]) with h2 | h2
        · omega
        · exact h2
      have eb' : hgt b ≤ h + 1 ∧ t < b.cnt ∧ b.cnt ≤ 2 * t := eb.resolve_left (by omega)
      have ea' : hgt a ≤ h ∧ t < 2 * a.cnt ∧ a.cnt ≤ t := ea.resolve_right (by omega)
      have ful : ∀ y ∈ L, full (2 * t) y := fun y hy => by
        have h1 := s3 y hy
        have h2 := big y hy
        refine .inl ?_
        rcases o3 y hy with h3 | h3 <;> unfold full at h3 <;> omega
      refine ⟨h + 1, 2 * t, by rw [p.ht, Int.pow_succ, Int.mul_comm], fun x hx => ?_, ?_, insS_cs _ _ s4⟩
      · rcases List.mem_cons.1 ((insS_perm _ L).mem_iff.1 hx) with rfl | hx
        · refine .inr ⟨?_, ?_, ?_⟩
          · rw [hgt]; omega
          · rw [cnt]
            rcases o1 b (by simp) with h3 | h3 <;> unfold full at h3 <;> omega
          · rw [cnt]; omega
        · have := big x hx
          exact .inl ⟨this.1, by omega, this.2.2⟩
      · refine ((insS_perm _ L).pairwise_iff (fun {x y} h => h.symm)).2 (List.pairwise_cons.2 ⟨fun y hy => .inr (ful y hy), ?_⟩)
        exact o4.imp_of_mem (fun {x y} hx _ _ => .inl (ful x hx))
    · have all : ∀ x ∈ a :: b :: L, t < x.cnt := fun x hx => by
        rcases List.mem_cons.1 hx with rfl | hx
        · omega
        · have := s1 x hx; omega
      exact ⟨h + 1, 2 * t, (p.up all).small g (by omega) (by omega)⟩
theorem Ph.mrg : ∀ (k g : Nat) (h : Nat) (t : Int) (L : List Nd), Ph h t L → ∃ h' t', Ph h' t' (mrgF k g L)
  | 0, _, h, t, _, p => ⟨h, t, p⟩
  | k + 1, _, h, t, [], p => ⟨h, t, p⟩
  | k + 1, _, h, t, [_], p => ⟨h, t, p⟩
  | k + 1, g, h, t, a :: b :: L, p => by
    rw [mrgF]
    obtain ⟨h', t', p'⟩ := p.step g
    exact Ph.mrg k (g + 1) h' t' _ p'
/-- all counts are nought or one -/
def Ones (l : List Int) : Prop := ∀ c ∈ l, c = 0 ∨ c = 1
theorem ones_leaf {l : List Int} (h : Ones l) : ∀ x ∈ leavesF l 0, x.cnt = 1 ∧ hgt x = 0 := fun x hx => by
  obtain ⟨c, s, rfl, _, _, hc, hs⟩ := leavesF_mem l 0 x hx
  have := h c (List.mem_of_getElem? hs)
  exact ⟨by rw [cnt]; omega, rfl⟩
theorem leaves_some : ∀ (l : List Int) (k : Nat), (leavesF l k).length = someN l
  | [], _ => rfl
  | c :: l, k => by
    have ih := leaves_some l (k + 1)
    unfold someN at ih ⊢
    rw [leavesF, List.countP_cons]
    by_cases h : 0 < c
    · rw [if_pos h, List.length_cons, ih]; simp [h]
    · rw [if_neg h, ih]; simp [h]
theorem sumC_ones : ∀ L : List Nd, (∀ x ∈ L, x.cnt = 1) → sumC L = L.length
  | [], _ => rfl
  | x :: L, h => by
    rw [sumC, h x (by simp), sumC_ones L (fun y hy => h y (by simp [hy])), List.length_cons]
    omega
theorem foldl_max_le : ∀ (l : List Int) (x m : Int), x ≤ m → (∀ y ∈ l, y ≤ m) → l.foldl max x ≤ m
  | [], _, _, h, _ => h
  | y :: l, x, m, h, hl => foldl_max_le l (max x y) m (by have := hl y (by simp); omega) (fun z hz => hl z (by simp [hz]))
theorem maxL_le : ∀ (l : List Int) (m : Int), 0 < l.length → (∀ x ∈ l, x ≤ m) → maxL l ≤ m
  | [], _, h, _ => by simp at h
  | x :: l, m, _, hx => foldl_max_le l x m (hx x (by simp)) (fun y hy => hx y (by simp [hy]))
theorem foldl_max_ge : ∀ (l : List Int) (x : Int), x ≤ l.foldl max x ∧ ∀ y ∈ l, y ≤ l.foldl max x
  | [], x => ⟨Int.le_refl _, by simp⟩
  | y :: l, x => by
    have ih := foldl_max_ge l (max x y)
    rw [List.foldl_cons]
    refine ⟨by omega, fun z hz => ?_⟩
    rcases List.mem_cons.1 hz with rfl | hz
    · omega
    · exact ih.2 z hz
theorem le_maxL : ∀ (l : List Int) (y : Int), y ∈ l → y ≤ maxL l
  | [], _, h => by cases h
  | x :: l, y, h => by
    rcases List.mem_cons.1 h with rfl | h
    · exact (foldl_max_ge l y).1
    · exact (foldl_max_ge l x).2 y h
theorem mem_set_cases {l : List Int} {i : Nat} {x y : Int} (h : y ∈ l.set i x) : y ∈ l ∨ y = x := by
  obtain ⟨j, hj⟩ := List.getElem?_of_mem h
  rw [List.getElem?_set] at hj
  split at hj
  · split at hj
    · exact .inr (Option.some.inj hj).symm
    · cases hj
  · exact .inl (List.mem_of_getElem? hj)
theorem ones_fit (l : List Int) (mm : Nat) (h : Ones l) (hs : someN l ≤ 2 ^ mm) (h1 : 1 ≤ mm) : okB mm l = true := by
  unfold okB
  refine decide_eq_true ?_
  by_cases h0 : l.length = 0
  · exact .inl h0
  · refine .inr (maxL_le _ _ (by rw [deepN_len]; omega) (fun y hy => ?_))
    have hsome := leaves_some l 0
    by_cases hk : 2 ≤ (leavesF l 0).length
    · obtain ⟨s, hys⟩ := List.getElem?_of_mem hy
      have hsl : s < l.length := by have := (List.getElem?_eq_some_iff.1 hys).1; rw [deepN_len] at this; exact this
      rcases deepN_at l hk s _ (List.getElem?_eq_getElem hsl) with ⟨_, h2⟩ | ⟨_, d, h2, h3⟩
      · rw [hys] at h2
        have := Option.some.inj h2
        omega
      · rw [hys] at h3
        have hyd := Option.some.inj h3
        have hd := lvs_hgt _ _ _ h2
        simp only [Nat.zero_add] at hd
        have hL : ∀ x ∈ srtS (leavesF l 0), x.cnt = 1 ∧ hgt x = 0 := fun x hx => ones_leaf h x ((srtS_perm _).mem_iff.1 hx)
        have p0 : Ph 0 1 (srtS (leavesF l 0)) := by
          refine ⟨rfl, fun x hx => ?_, ?_, srtS_cs _⟩
          · have := hL x hx
            exact .inl ⟨by omega, by omega, by omega⟩
          · have hp : (srtS (leavesF l 0)).Pairwise fun _ _ => True := List.pairwise_of_forall (fun _ _ => trivial)
            exact hp.imp_of_mem (fun {x y} hx _ _ => .inl (.inl (hL x hx).1))
        obtain ⟨h', t', p⟩ := Ph.mrg (leavesF l 0).length 0 0 1 _ p0
        have hsum := sumC_mrg (leavesF l 0).length 0 (srtS (leavesF l 0))
        rw [tree_mrg l (by omega)] at p hsum
        rw [sumC_srt, sumC_ones _ (fun x hx => (ones_leaf h x hx).1), sumC, sumC, hsome, Int.add_zero] at hsum
        have hh : (2 : Int) ^ hgt (treeN l) < 2 * (treeN l).cnt := by
          have ht := p.ht
          rcases p.each (treeN l) (by simp) with ⟨e1, e2, e3⟩ | ⟨e1, e2, e3⟩
          · have hp : (2 : Nat) ^ hgt (treeN l) ≤ 2 ^ h' := Nat.pow_le_pow_right (by omega) e1
            have hp2 : (2 : Int) ^ hgt (treeN l) ≤ 2 ^ h' := by exact_mod_cast hp
            omega
          · have hp : (2 : Nat) ^ hgt (treeN l) ≤ 2 ^ (h' + 1) := Nat.pow_le_pow_right (by omega) e1
            have hp2 : (2 : Int) ^ hgt (treeN l) ≤ 2 ^ (h' + 1) := by exact_mod_cast hp
            rw [Int.pow_succ] at hp2
            omega
        have hs2 : ((someN l : Nat) : Int) ≤ ((2 ^ mm : Nat) : Int) := by exact_mod_cast hs
        have hh2 : (2 : Nat) ^ hgt (treeN l) < 2 ^ (mm + 1) := by
          rw [Nat.pow_succ]
          have : ((2 ^ hgt (treeN l) : Nat) : Int) < ((2 ^ mm * 2 : Nat) : Int) := by push_cast; push_cast at hs2; omega
          exact_mod_cast this
        have hlt := (Nat.pow_lt_pow_iff_right (by omega : 1 < 2)).1 hh2
        omega
    · match hleaf : leavesF l 0, hk with
      | [], _ =>
        rw [deepN_more (by rw [hleaf]; simp), hleaf] at hy
        have hy0 : y = 0 := List.eq_of_mem_replicate hy
        omega
      | [x], _ =>
        rw [deepN_one hleaf] at hy
        rcases mem_set_cases hy with hy | hy
        · have hy0 : y = 0 := List.eq_of_mem_replicate hy
          omega
        · omega
      | x :: z :: L, hk => exact absurd (by simp) hk
theorem some_half : ∀ l : List Int, (∀ c ∈ l, 0 ≤ c) → someN (halfL l) = someN l
  | [], _ => rfl
  | c :: l, h => by
    have ih := some_half l (fun d hd => h d (by simp [hd]))
    have hc := h c (by simp)
    unfold someN halfL at ih ⊢
    rw [List.map_cons, List.countP_cons, List.countP_cons, ih]
    by_cases h0 : 0 < c
    · rw [decide_eq_true h0, decide_eq_true (show 0 < (c + 1) / 2 by omega)]
    · rw [decide_eq_false h0, decide_eq_false (show ¬ 0 < (c + 1) / 2 by omega)]
theorem fit_pow (mm : Nat) (h1 : 1 ≤ mm) : ∀ (K : Nat) (l : List Int), (∀ c ∈ l, 0 ≤ c ∧ c ≤ 2 ^ K) → someN l ≤ 2 ^ mm → fitB K mm l = true
  | 0, l, h, hs => ones_fit l mm (fun c hc => by have := h c hc; simp at this; omega) hs h1
  | K + 1, l, h, hs => by
    rw [fitB, fit_pow mm h1 K (halfL l) (fun c hc => ?_) (by rw [some_half l (fun c hc => (h c hc).1)]; exact hs), Bool.or_true]
    obtain ⟨x, hx, rfl⟩ := List.mem_map.1 hc
    have := h x hx
    rw [Int.pow_succ] at this
    omega
theorem fit_all {l : List Int} {m : Int} (he : lensErr l m = false) : fitB 40 m l = true := by
  obtain ⟨hx, hl, hm1, hm15, hs⟩ := lensErr_false he
  obtain ⟨mm, rfl⟩ : ∃ mm : Nat, m = mm := ⟨m.toNat, by omega⟩
  exact fit_pow mm (by omega) 40 l (fun c hc => by have := hx c hc; omega) (by simpa using hs)
end Go.Proofs.Ytchhgbhbldfofaa.Hu
