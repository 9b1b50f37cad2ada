/-
  Plain: the heap's pops and pushes as a sorted list; the merging of nodes; the depths. No program is in sight here.
-/
import Derived.Test.YtchhgbhbldfofaaHuQ
namespace Go.Proofs.Ytchhgbhbldfofaa.Hu

def insS (x : Nd) : List Nd → List Nd
  | [] => [x]
  | y :: L => if ndLt x y = true then x :: y :: L else y :: insS x L
def srtS : List Nd → List Nd
  | [] => []
  | x :: L => insS x (srtS L)
def mrgF : Nat → Nat → List Nd → List Nd
  | k + 1, g, a :: b :: L => mrgF k (g + 1) (insS (.join (a.cnt + b.cnt) g a b) L)
  | _, _, L => L
def setD : Nd → Nat → List Int → List Int
  | .leaf _ s, d, L => L.set s d
  | .join _ _ a b, d, L => setD b (d + 1) (setD a (d + 1) L)
def leavesF : List Int → Nat → List Nd
  | [], _ => []
  | c :: l, k => if 0 < c then .leaf c k :: leavesF l (k + 1) else leavesF l (k + 1)
def Srt (L : List Nd) : Prop := L.Pairwise (fun x y => ndLt x y = true)
/-- one of two comes first -/
def Tri (x y : Nd) : Prop := ndLt x y = true ∨ ndLt y x = true
theorem insS_perm (x : Nd) : ∀ L, (insS x L).Perm (x :: L)
  | [] => List.Perm.refl _
  | y :: L => by
    rw [insS]
    split
    · exact List.Perm.refl _
    · exact ((insS_perm x L).cons y).trans (List.Perm.swap x y L)
theorem insS_len (x : Nd) (L : List Nd) : (insS x L).length = L.length + 1 := (insS_perm x L).length_eq
theorem srtS_perm : ∀ L, (srtS L).Perm L
  | [] => List.Perm.refl _
  | x :: L => (insS_perm x (srtS L)).trans ((srtS_perm L).cons x)
theorem insS_srt (x : Nd) : ∀ L, Srt L → (∀ y ∈ L, Tri x y) → Srt (insS x L)
  | [], _, _ => List.pairwise_singleton _ _
  | y :: L, h, ht => by
    obtain ⟨h1, h2⟩ := List.pairwise_cons.1 h
    rw [insS]
    split
    · rename_i hlt
      refine List.pairwise_cons.2 ⟨fun z hz => ?_, h⟩
      rcases List.mem_cons.1 hz with rfl | hz
      · exact hlt
      · exact ndLt_tr _ _ _ hlt (h1 z hz)
    · rename_i hlt
      have hyx : ndLt y x = true := (ht y (by simp)).resolve_left hlt
      refine List.pairwise_cons.2 ⟨fun z hz => ?_, insS_srt x L h2 (fun z hz => ht z (by simp [hz]))⟩
      rcases List.mem_cons.1 ((insS_perm x L).mem_iff.1 hz) with rfl | hz
      · exact hyx
      · exact h1 z hz
theorem srtS_srt : ∀ L : List Nd, L.Pairwise Tri → Srt (srtS L)
  | [], _ => List.Pairwise.nil
  | x :: L, h => by
    obtain ⟨h1, h2⟩ := List.pairwise_cons.1 h
    exact insS_srt x _ (srtS_srt L h2) (fun y hy => h1 y ((srtS_perm L).mem_iff.1 hy))
/-- a heap that holds the nodes of a sorted list -/
structure HpS (H : List Pn) (L : List Nd) : Prop where
  heap : HeapFrom pnLt 0 H.length H
  perm : (H.map (·.2)).Perm L
  srt : Srt L
theorem HpS.len {H : List Pn} {L : List Nd} (h : HpS H L) : H.length = L.length := by have := h.perm.length_eq; simpa using this
theorem at_mem2 {H : List Pn} {i : Nat} (h : i < H.length) : at_ H i ∈ H := by
  unfold at_
  rw [List.getD_eq_getElem?_getD, List.getElem?_eq_getElem h]
  exact List.getElem_mem h
theorem mem_at {H : List Pn} {p : Pn} (h : p ∈ H) : ∃ i, i < H.length ∧ at_ H i = p := by
  obtain ⟨i, hi, rfl⟩ := List.getElem_of_mem h
  refine ⟨i, hi, ?_⟩
  unfold at_
  rw [List.getD_eq_getElem?_getD, List.getElem?_eq_getElem hi]
  rfl
theorem at_take {H : List Pn} {m i : Nat} (h : i < m) : at_ (H.take m) i = at_ H i := by
  unfold at_
  rw [List.getD_eq_getElem?_getD, List.getD_eq_getElem?_getD, List.getElem?_take_of_lt h]
theorem split_last {H : List Pn} (h : 0 < H.length) : H = H.take (H.length - 1) ++ [at_ H (H.length - 1)] := by
  have e := List.take_succ_eq_append_getElem (l := H) (i := H.length - 1) (by omega)
  rw [show H.length - 1 + 1 = H.length by omega, List.take_length] at e
  unfold at_
  rw [List.getD_eq_getElem?_getD, List.getElem?_eq_getElem (by omega)]
  exact e
def popL (H : List Pn) : List Pn := (downF pnLt (H.length - 1) (swp H 0 (H.length - 1)) 0 (H.length - 1)).take (H.length - 1)
def pushL (H : List Pn) (p : Pn) : List Pn := upF pnLt (H.length + 1) (H ++ [p]) H.length
theorem pop_last (H : List Pn) (h0 : 0 < H.length) : at_ (downF pnLt (H.length - 1) (swp H 0 (H.length - 1)) 0 (H.length - 1)) (H.length - 1) = at_ H 0 := by
  by_cases h1 : H.length - 1 = 0
  · have e : downF pnLt (H.length - 1) (swp H 0 (H.length - 1)) 0 (H.length - 1) = swp H 0 (H.length - 1) := by rw [h1]; rfl
    rw [e, at_swp H 0 (H.length - 1) _ h0 (by omega), if_pos rfl]
  · rw [downF_far pnLt (H.length - 1) _ _ 0 (by rw [swp_len]; omega) (by omega) _ (Nat.le_refl _), at_swp H 0 (H.length - 1) _ h0 (by omega), if_pos rfl]
theorem popL_len (H : List Pn) : (popL H).length = H.length - 1 := by unfold popL; rw [List.length_take, downF_len, swp_len]; omega
theorem popL_perm (H : List Pn) (h0 : 0 < H.length) : H.Perm (at_ H 0 :: popL H) := by
  have hl : (downF pnLt (H.length - 1) (swp H 0 (H.length - 1)) 0 (H.length - 1)).length = H.length := by rw [downF_len, swp_len]
  have e := split_last (H := downF pnLt (H.length - 1) (swp H 0 (H.length - 1)) 0 (H.length - 1)) (by omega)
  rw [hl, pop_last H h0] at e
  have p1 := downF_perm pnLt (H.length - 1) (H.length - 1) (swp H 0 (H.length - 1)) 0 (by rw [swp_len]; omega) (by rw [swp_len]; omega)
  have p2 := swp_perm H 0 (H.length - 1) h0 (by omega)
  have p3 := (p1.trans p2).symm
  rw [e] at p3
  exact p3.trans List.perm_append_comm
theorem HpS.pop {H : List Pn} {a : Nd} {L : List Nd} (h : HpS H (a :: L)) : (at_ H 0).2 = a ∧ HpS (popL H) L := by
  have hl := h.len
  have h0 : 0 < H.length := by rw [hl]; simp
  have hmin := heap_min pnLt pnLt_trans h.heap (fun p => ndLt_irr p.2)
  have ha : (at_ H 0).2 = a := by
    have hmem : (at_ H 0).2 ∈ a :: L := h.perm.mem_iff.1 (List.mem_map.2 ⟨_, at_mem2 h0, rfl⟩)
    rcases List.mem_cons.1 hmem with e | hm
    · exact e
    · have hlt : ndLt a (at_ H 0).2 = true := (List.pairwise_cons.1 h.srt).1 _ hm
      obtain ⟨p, hp, hpa⟩ := List.mem_map.1 (h.perm.mem_iff.2 (List.mem_cons_self (a := a) (l := L)))
      obtain ⟨i, hi, hip⟩ := mem_at hp
      have := hmin i hi
      unfold pnLt at this
      rw [hip, hpa, hlt] at this
      cases this
  refine ⟨ha, ?_, ?_, (List.pairwise_cons.1 h.srt).2⟩
  · rw [popL_len]
    have hd : HeapFrom pnLt 0 (H.length - 1) (downF pnLt (H.length - 1) (swp H 0 (H.length - 1)) 0 (H.length - 1)) := by
      refine downF_heap pnLt pnLt_trans pnLt_asymm 0 (H.length - 1) (H.length - 1) (swp H 0 (H.length - 1)) 0 (by rw [swp_len]; omega) (Nat.zero_le _) (by omega) (fun k hk hk0 _ hp => ?_) (fun k hk hk0 hp h0' _ => by omega)
      have hat := fun k => at_swp H 0 (H.length - 1) k h0 (by omega)
      rw [hat, hat, if_neg (by omega), if_neg (by omega), if_neg (by omega), if_neg (by omega)]
      exact h.heap k (by omega) hk0 (Nat.zero_le _)
    intro k hk hk0 _
    unfold popL
    rw [at_take hk, at_take (by omega)]
    exact hd k hk hk0 (Nat.zero_le _)
  · have p := ((popL_perm H h0).map (·.2)).symm.trans h.perm
    rw [List.map_cons, ha] at p
    exact p.cons_inv
theorem pushL_len (H : List Pn) (p : Pn) : (pushL H p).length = H.length + 1 := by unfold pushL; rw [upF_len]; simp
theorem at_app {H : List Pn} {p : Pn} {i : Nat} (h : i < H.length) : at_ (H ++ [p]) i = at_ H i := by
  unfold at_
  rw [List.getD_eq_getElem?_getD, List.getD_eq_getElem?_getD, List.getElem?_append_left h]
theorem HpS.push {H : List Pn} {L : List Nd} (h : HpS H L) (a : Nat) (x : Nd) (ht : ∀ y ∈ L, Tri x y) : HpS (pushL H (a, x)) (insS x L) := by
  refine ⟨?_, ?_, insS_srt x L h.srt ht⟩
  · rw [pushL_len]
    refine upF_heap pnLt pnLt_trans pnLt_asymm (H.length + 1) (H.length + 1) (H ++ [(a, x)]) H.length (by simp) (by omega) (by omega) (fun k hk hk0 hne => ?_) (fun k hk hk0 hp h0 => by omega)
    rw [at_app (by omega), at_app (by omega)]
    exact h.heap k (by omega) hk0 (Nat.zero_le _)
  · have p1 : (pushL H (a, x)).Perm (H ++ [(a, x)]) := upF_perm pnLt _ _ _ (by simp)
    have p2 : ((pushL H (a, x)).map (·.2)).Perm (x :: H.map (·.2)) := (p1.map (·.2)).trans (by rw [List.map_append]; exact List.perm_append_comm)
    exact (p2.trans (h.perm.cons x)).trans (insS_perm x L).symm
theorem HpS.init {H : List Pn} {L : List Nd} (h : H.map (·.2) = L) (ht : L.Pairwise Tri) : HpS (initF pnLt H.length (H.length / 2) H) (srtS L) := by
  obtain ⟨r1, r2⟩ := initF_heap pnLt pnLt_trans pnLt_asymm H.length (H.length / 2) H rfl (by omega) (fun k hk hk0 hl => by omega)
  have hl := r2.length_eq
  refine ⟨by rw [hl]; exact r1, ((r2.map (·.2)).trans (by rw [h])).trans (srtS_perm L).symm, srtS_srt L ht⟩
/-! ### leaves, ages -/
theorem leavesF_mem : ∀ (l : List Int) (k : Nat) (x : Nd), x ∈ leavesF l k → ∃ c s, x = .leaf c s ∧ k ≤ s ∧ s < k + l.length ∧ 0 < c ∧ l[s - k]? = some c
  | [], k, x, h => by simp [leavesF] at h
  | c :: l, k, x, h => by
    have step : x ∈ leavesF l (k + 1) → ∃ c' s, x = .leaf c' s ∧ k ≤ s ∧ s < k + (c :: l).length ∧ 0 < c' ∧ (c :: l)[s - k]? = some c' := fun h => by
      obtain ⟨c', s, e, h1, h2, h3, h4⟩ := leavesF_mem l (k + 1) x h
      refine ⟨c', s, e, by omega, by simp; omega, h3, ?_⟩
      rw [show s - k = (s - (k + 1)) + 1 by omega, List.getElem?_cons_succ]
      exact h4
    rw [leavesF] at h
    split at h
    · rename_i hc
      rcases List.mem_cons.1 h with e | h
      · exact ⟨c, k, e, Nat.le_refl _, by simp, hc, by simp⟩
      · exact step h
    · exact step h
theorem leavesF_tri : ∀ (l : List Int) (k : Nat), (leavesF l k).Pairwise Tri
  | [], k => List.Pairwise.nil
  | c :: l, k => by
    rw [leavesF]
    split
    · refine List.pairwise_cons.2 ⟨fun y hy => ?_, leavesF_tri l (k + 1)⟩
      obtain ⟨c', s, rfl, h1, _, _, _⟩ := leavesF_mem l (k + 1) y hy
      unfold Tri
      rw [ndLt_iff, ndLt_iff]
      simp [Nd.cnt, Nd.mk, Nd.age]
      omega
    · exact leavesF_tri l (k + 1)
theorem leavesF_len : ∀ (l : List Int) (k : Nat), (leavesF l k).length ≤ l.length
  | [], k => Nat.le_refl _
  | c :: l, k => by
    rw [leavesF]
    have := leavesF_len l (k + 1)
    split <;> simp <;> omega
/-- every node that was made is younger than g -/
def Young (g : Nat) (L : List Nd) : Prop := ∀ x ∈ L, x.mk = true → x.age < g
theorem tri_join {g : Nat} {c : Int} {a b : Nd} {L : List Nd} (h : Young g L) : ∀ y ∈ L, Tri (.join c g a b) y := by
  intro y hy
  unfold Tri
  rw [ndLt_iff, ndLt_iff]
  cases y with
  | leaf c' s => simp [Nd.cnt, Nd.mk, Nd.age, b2i]; omega
  | join c' g' x z =>
    have := h _ hy rfl
    simp [Nd.cnt, Nd.mk, Nd.age] at this ⊢
    omega
theorem Young.step {g : Nat} {a b : Nd} {c : Int} {L : List Nd} (h : Young g (a :: b :: L)) : Young (g + 1) (insS (.join c g a b) L) := by
  intro x hx hm
  rcases List.mem_cons.1 ((insS_perm _ L).mem_iff.1 hx) with rfl | hx
  · simp [Nd.age]
  · have := h x (by simp [hx]) hm
    omega
end Go.Proofs.Ytchhgbhbldfofaa.Hu
