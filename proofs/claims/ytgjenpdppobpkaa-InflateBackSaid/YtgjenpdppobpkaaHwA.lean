/-
  Plain: no lengths of codes take fewer bits than the merged tree's.
-/
import Derived.Test.YtgjenpdppobpkaaPkI
namespace Go.Proofs.Ytgjenpdppobpkaa.Hu
open Nd

/-! ### pairs of a weight and a length -/
abbrev Wl := Int × Nat
def costP : List Wl → Int
  | [] => 0
  | p :: P => p.1 * (p.2 : Int) + costP P
def krP : List Wl → Nat
  | [] => 0
  | p :: P => 2 ^ (15 - p.2) + krP P
def lenP : List Wl → Nat
  | [] => 0
  | p :: P => p.2 + lenP P
theorem costP_app : ∀ P Q : List Wl, costP (P ++ Q) = costP P + costP Q
  | [], Q => by simp [costP]
  | p :: P, Q => by rw [List.cons_append, costP, costP, costP_app P Q]; omega
theorem krP_app : ∀ P Q : List Wl, krP (P ++ Q) = krP P + krP Q
  | [], Q => by simp [krP]
  | p :: P, Q => by rw [List.cons_append, krP, krP, krP_app P Q]; omega
theorem lenP_app : ∀ P Q : List Wl, lenP (P ++ Q) = lenP P + lenP Q
  | [], Q => by simp [lenP]
  | p :: P, Q => by rw [List.cons_append, lenP, lenP, lenP_app P Q]; omega
theorem costP_perm {P Q : List Wl} (h : P.Perm Q) : costP P = costP Q := by
  induction h with
  | nil => rfl
  | cons x _ ih => rw [costP, costP, ih]
  | swap x y l => rw [costP, costP, costP, costP]; omega
  | trans _ _ ih1 ih2 => rw [ih1, ih2]
theorem krP_perm {P Q : List Wl} (h : P.Perm Q) : krP P = krP Q := by
  induction h with
  | nil => rfl
  | cons x _ ih => rw [krP, krP, ih]
  | swap x y l => rw [krP, krP, krP, krP]; omega
  | trans _ _ ih1 ih2 => rw [ih1, ih2]
theorem krP_dvd (m : Nat) : ∀ P : List Wl, (∀ p ∈ P, p.2 + m ≤ 15) → 2 ^ m ∣ krP P
  | [], _ => ⟨0, rfl⟩
  | p :: P, h => by
    rw [krP]
    have h1 := h p (by simp)
    exact Nat.dvd_add (Nat.pow_dvd_pow 2 (by omega)) (krP_dvd m P (fun q hq => h q (by simp [hq])))
/-- a longest length that stands alone may be one less -/
theorem shorter (l r : Nat) (h1 : 1 ≤ l) (h15 : l ≤ 15) (hd : 2 ^ (16 - l) ∣ r) (hk : 2 ^ (15 - l) + r ≤ 32768) : 2 ^ (15 - (l - 1)) + r ≤ 32768 := by
  obtain ⟨q, rfl⟩ := hd
  have e1 : 15 - (l - 1) = 16 - l := by omega
  have e2 : (2 : Nat) ^ (16 - l) = 2 * 2 ^ (15 - l) := by rw [show 16 - l = (15 - l) + 1 by omega, Nat.pow_succ, Nat.mul_comm]
  have e3 : (2 : Nat) ^ (16 - l) * 2 ^ (l - 1) = 32768 := by rw [← Nat.pow_add, show 16 - l + (l - 1) = 15 by omega]
  have hp : 0 < (2 : Nat) ^ (15 - l) := Nat.pow_pos (by omega)
  rw [e1]
  have hq : q < 2 ^ (l - 1) := by
    refine Nat.lt_of_mul_lt_mul_left (a := 2 ^ (16 - l)) ?_
    omega
  exact calc 2 ^ (16 - l) + 2 ^ (16 - l) * q = 2 ^ (16 - l) * (q + 1) := by rw [Nat.mul_add, Nat.mul_one, Nat.add_comm]
    _ ≤ 2 ^ (16 - l) * 2 ^ (l - 1) := Nat.mul_le_mul_left _ hq
    _ = 32768 := e3
theorem swap_cost (x w : Int) (la l : Nat) (h : x ≤ w) (hl : la ≤ l) : x * (l : Int) + w * (la : Int) ≤ x * (la : Int) + w * (l : Int) := by
  have h1 : 0 ≤ (w - x) * ((l : Int) - (la : Int)) := Int.mul_nonneg (by omega) (by omega)
  have h2 : (w - x) * ((l : Int) - (la : Int)) = w * l - w * la - (x * l - x * la) := by
    rw [Int.sub_mul, Int.mul_sub, Int.mul_sub]
  omega
theorem two_deep : ∀ (μ : Nat) (x y : Int) (la lb : Nat) (P : List Wl), 31 * (la + lb + lenP P) + (30 - (la + lb)) ≤ μ → 0 ≤ x → 0 ≤ y → la ≤ 15 → lb ≤ 15 → (∀ p ∈ P, x ≤ p.1 ∧ y ≤ p.1 ∧ p.2 ≤ 15) → 2 ^ (15 - la) + 2 ^ (15 - lb) + krP P ≤ 32768 →
    ∃ Q : List Wl, Q.map (·.1) = (x + y) :: P.map (·.1) ∧ (∀ p ∈ Q, p.2 ≤ 15) ∧ krP Q ≤ 32768 ∧ x + y + costP Q ≤ x * (la : Int) + y * (lb : Int) + costP P := by
  intro μ
  induction μ with
  | zero =>
    intro x y la lb P hμ hx hy ha hb hP hk
    obtain rfl : la = 0 := by omega
    obtain rfl : lb = 0 := by omega
    simp at hk
    omega
  | succ μ ih =>
    intro x y la lb P hμ hx hy ha hb hP hk
    by_cases h1 : ∃ p ∈ P, la < p.2
    · obtain ⟨⟨w, l⟩, hp, hl⟩ := h1
      obtain ⟨A, B, rfl⟩ := List.append_of_mem hp
      have hw := hP _ hp
      simp only at hl hw
      obtain ⟨Q, q1, q2, q3, q4⟩ := ih x y l lb (A ++ (w, la) :: B) (by simp only [lenP_app, lenP] at hμ ⊢; omega) hx hy hw.2.2 hb (fun p hp => by
        rcases List.mem_append.1 hp with h | h
        · exact hP p (by simp [h])
        · rcases List.mem_cons.1 h with rfl | h
          · exact ⟨hw.1, hw.2.1, ha⟩
          · exact hP p (by simp [h])) (by simp only [krP_app, krP] at hk ⊢; omega)
      refine ⟨Q, by rw [q1]; simp, q2, q3, ?_⟩
      have := swap_cost x w la l hw.1 (by omega)
      simp only [costP_app, costP] at q4 ⊢
      omega
    by_cases h2 : ∃ p ∈ P, lb < p.2
    · obtain ⟨⟨w, l⟩, hp, hl⟩ := h2
      obtain ⟨A, B, rfl⟩ := List.append_of_mem hp
      have hw := hP _ hp
      simp only at hl hw
      obtain ⟨Q, q1, q2, q3, q4⟩ := ih x y la l (A ++ (w, lb) :: B) (by simp only [lenP_app, lenP] at hμ ⊢; omega) hx hy ha hw.2.2 (fun p hp => by
        rcases List.mem_append.1 hp with h | h
        · exact hP p (by simp [h])
        · rcases List.mem_cons.1 h with rfl | h
          · exact ⟨hw.1, hw.2.1, hb⟩
          · exact hP p (by simp [h])) (by simp only [krP_app, krP] at hk ⊢; omega)
      refine ⟨Q, by rw [q1]; simp, q2, q3, ?_⟩
      have := swap_cost y w lb l hw.2.1 (by omega)
      simp only [costP_app, costP] at q4 ⊢
      omega
    have g1 : ∀ p ∈ P, p.2 ≤ la := fun p hp => Nat.le_of_not_lt fun h => h1 ⟨p, hp, h⟩
    have g2 : ∀ p ∈ P, p.2 ≤ lb := fun p hp => Nat.le_of_not_lt fun h => h2 ⟨p, hp, h⟩
    clear h1 h2
    rcases Nat.lt_trichotomy la lb with hlt | rfl | hlt
    · have hs := shorter lb (2 ^ (15 - la) + krP P) (by omega) hb (Nat.dvd_add (Nat.pow_dvd_pow 2 (by omega)) (krP_dvd (16 - lb) P (fun p hp => by have := g1 p hp; omega))) (by omega)
      obtain ⟨Q, q1, q2, q3, q4⟩ := ih x y la (lb - 1) P (by omega) hx hy ha (by omega) hP (by omega)
      refine ⟨Q, q1, q2, q3, ?_⟩
      have e : y * (lb : Int) = y * ((lb - 1 : Nat) : Int) + y := by
        rw [show (lb : Int) = ((lb - 1 : Nat) : Int) + 1 by omega, Int.mul_add, Int.mul_one]
      omega
    · have h1 : 1 ≤ la := by
        rcases Nat.eq_zero_or_pos la with rfl | h
        · simp at hk; omega
        · exact h
      refine ⟨(x + y, la - 1) :: P, rfl, fun p hp => ?_, ?_, ?_⟩
      · rcases List.mem_cons.1 hp with rfl | hp
        · show la - 1 ≤ 15; omega
        · exact (hP p hp).2.2
      · rw [krP]
        show 2 ^ (15 - (la - 1)) + krP P ≤ 32768
        rw [show 15 - (la - 1) = (15 - la) + 1 by omega, Nat.pow_succ]
        omega
      · rw [costP]
        show x + y + ((x + y) * ((la - 1 : Nat) : Int) + costP P) ≤ _
        have e : (la : Int) = ((la - 1 : Nat) : Int) + 1 := by omega
        rw [e, Int.add_mul, Int.mul_add, Int.mul_add]
        omega
    · have hs := shorter la (2 ^ (15 - lb) + krP P) (by omega) ha (Nat.dvd_add (Nat.pow_dvd_pow 2 (by omega)) (krP_dvd (16 - la) P (fun p hp => by have := g2 p hp; omega))) (by omega)
      obtain ⟨Q, q1, q2, q3, q4⟩ := ih x y (la - 1) lb P (by omega) hx hy (by omega) hb hP (by omega)
      refine ⟨Q, q1, q2, q3, ?_⟩
      have e : x * (la : Int) = x * ((la - 1 : Nat) : Int) + x := by
        rw [show (la : Int) = ((la - 1 : Nat) : Int) + 1 by omega, Int.mul_add, Int.mul_one]
      omega
/-! ### the merged tree -/
def ic : Nd → Int
  | .leaf _ _ => 0
  | .join c _ a b => c + ic a + ic b
def icL : List Nd → Int
  | [] => 0
  | x :: L => ic x + icL L
theorem icL_ins (x : Nd) : ∀ L, icL (insS x L) = ic x + icL L
  | [] => rfl
  | y :: L => by
    rw [insS]
    split
    · rfl
    · rw [icL, icL_ins x L, icL]; omega
theorem opt : ∀ (k g : Nat) (L : List Nd) (P : List Wl), CS L → (∀ x ∈ L, 0 ≤ x.cnt) → (P.map (·.1)).Perm (L.map cnt) → (∀ p ∈ P, p.2 ≤ 15) → krP P ≤ 32768 → icL (mrgF k g L) ≤ icL L + costP P
  | 0, g, L, P, hs, h0, hp, h15, hk => by
    have hc : 0 ≤ costP P := by
      have hw : ∀ p ∈ P, 0 ≤ p.1 := fun p hm => by
        obtain ⟨x, hx, e⟩ := List.mem_map.1 (hp.mem_iff.1 (List.mem_map.2 ⟨p, hm, rfl⟩))
        rw [← e]; exact h0 x hx
      clear hp hk h15
      induction P with
      | nil => exact Int.le_refl 0
      | cons p P ih =>
        have := ih (fun q hq => hw q (by simp [hq]))
        have := Int.mul_nonneg (hw p (by simp)) (show (0 : Int) ≤ (p.2 : Int) by omega)
        rw [costP]; omega
    show icL L ≤ _
    omega
  | k + 1, g, [], P, hs, h0, hp, h15, hk => by
    have : P = [] := by simpa using hp.length_eq
    subst this
    exact Int.le_refl _
  | k + 1, g, [x], P, hs, h0, hp, h15, hk => by
    obtain ⟨p, rfl⟩ : ∃ p, P = [p] := by
      have hl : P.length = 1 := by simpa using hp.length_eq
      match P, hl with
      | [p], _ => exact ⟨p, rfl⟩
    have e : p.1 = x.cnt := by simpa using hp
    have := Int.mul_nonneg (h0 x (by simp)) (show (0 : Int) ≤ (p.2 : Int) by omega)
    show icL [x] ≤ icL [x] + costP [p]
    rw [costP, costP, e]
    omega
  | k + 1, g, a :: b :: L, P, hs, h0, hp, h15, hk => by
    obtain ⟨s1, s2⟩ := List.pairwise_cons.1 hs
    obtain ⟨s3, s4⟩ := List.pairwise_cons.1 s2
    have pull : ∀ (P : List Wl) (c : Int) (R : List Int), (P.map (·.1)).Perm (c :: R) → ∃ l P', P.Perm ((c, l) :: P') ∧ (P'.map (·.1)).Perm R := fun P c R h => by
      obtain ⟨⟨c', l⟩, hm, e⟩ := List.mem_map.1 (h.mem_iff.2 (List.mem_cons_self (a := c) (l := R)))
      simp only at e
      subst e
      obtain ⟨A, B, rfl⟩ := List.append_of_mem hm
      refine ⟨l, A ++ B, List.perm_middle, ?_⟩
      have h2 := (List.perm_middle (a := (c', l)) (l₁ := A) (l₂ := B)).map (·.1)
      exact (h2.symm.trans h).cons_inv
    obtain ⟨la, P1, p1, p2⟩ := pull P a.cnt _ hp
    obtain ⟨lb, P2, p3, p4⟩ := pull P1 b.cnt _ p2
    have hpp : P.Perm ((a.cnt, la) :: (b.cnt, lb) :: P2) := p1.trans (p3.cons _)
    have hk2 := krP_perm hpp
    have hc2 := costP_perm hpp
    have h15' : ∀ p ∈ (a.cnt, la) :: (b.cnt, lb) :: P2, p.2 ≤ 15 := fun p hm => h15 p (hpp.mem_iff.2 hm)
    rw [krP, krP] at hk2
    rw [costP, costP] at hc2
    simp only at hk2 hc2
    have hP2 : ∀ p ∈ P2, a.cnt ≤ p.1 ∧ b.cnt ≤ p.1 ∧ p.2 ≤ 15 := fun p hm => by
      obtain ⟨x, hx, e⟩ := List.mem_map.1 (p4.mem_iff.1 (List.mem_map.2 ⟨p, hm, rfl⟩))
      rw [← e]
      exact ⟨s1 x (by simp [hx]), s3 x hx, h15' p (by simp [hm])⟩
    obtain ⟨Q, q1, q2, q3, q4⟩ := two_deep _ a.cnt b.cnt la lb P2 (Nat.le_refl _) (h0 a (by simp)) (h0 b (by simp)) (h15' (a.cnt, la) (by simp)) (h15' (b.cnt, lb) (by simp)) hP2 (by omega)
    have hi := opt k (g + 1) (insS (.join (a.cnt + b.cnt) g a b) L) Q (insS_cs _ _ s4) (fun x hx => by
      rcases List.mem_cons.1 ((insS_perm _ L).mem_iff.1 hx) with rfl | hx
      · have := h0 a (by simp); have := h0 b (by simp); rw [cnt]; omega
      · exact h0 x (by simp [hx])) (by
      rw [q1]
      exact (p4.cons _).trans ((insS_perm (.join (a.cnt + b.cnt) g a b) L).map cnt).symm) q2 q3
    rw [mrgF]
    rw [icL_ins, ic] at hi
    rw [icL, icL]
    omega
/-- counts are sums -/
def Cns : Nd → Prop
  | .leaf _ _ => True
  | .join c _ a b => c = a.cnt + b.cnt ∧ Cns a ∧ Cns b
theorem cns_mrg : ∀ (k g : Nat) (L : List Nd), (∀ x ∈ L, Cns x) → ∀ x ∈ mrgF k g L, Cns x
  | 0, _, _, h => h
  | k + 1, _, [], h => h
  | k + 1, _, [_], h => h
  | k + 1, g, a :: b :: L, h => by
    rw [mrgF]
    refine cns_mrg k (g + 1) _ (fun x hx => ?_)
    rcases List.mem_cons.1 ((insS_perm _ L).mem_iff.1 hx) with rfl | hx
    · exact ⟨rfl, h a (by simp), h b (by simp)⟩
    · exact h x (by simp [hx])
def wlT (T : List (Int × Nat × Nat)) : List Wl := T.map fun t => (t.1, t.2.2)
theorem cost_tree : ∀ (x : Nd) (d : Nat), Cns x → costP (wlT (lvs x d)) = x.cnt * (d : Int) + ic x
  | .leaf c s, d, _ => by simp [lvs, wlT, costP, cnt, ic]
  | .join c g a b, d, h => by
    obtain ⟨h1, h2, h3⟩ := h
    have e1 := cost_tree a (d + 1) h2
    have e2 := cost_tree b (d + 1) h3
    unfold wlT at e1 e2 ⊢
    rw [lvs, List.map_append, costP_app, e1, e2, cnt, ic, h1]
    push_cast
    rw [Int.mul_add, Int.mul_add, Int.add_mul]
    omega
theorem kr_tree : ∀ (x : Nd) (d : Nat), (∀ t ∈ lvs x d, t.2.2 ≤ 15) → krP (wlT (lvs x d)) = 2 ^ (15 - d)
  | .leaf c s, d, _ => by simp [lvs, wlT, krP]
  | .join c g a b, d, h => by
    rw [lvs] at h
    have e1 := kr_tree a (d + 1) (fun t ht => h t (List.mem_append_left _ ht))
    have e2 := kr_tree b (d + 1) (fun t ht => h t (List.mem_append_right _ ht))
    have hd : d + 1 ≤ 15 := by
      have hne : lvs a (d + 1) ≠ [] := by
        clear h e1 e2
        generalize d + 1 = e
        induction a generalizing e with
        | leaf => simp [lvs]
        | join c g a b iha _ => simp [lvs, iha]
      obtain ⟨t, T, hT⟩ := List.exists_cons_of_ne_nil hne
      have h1 := h t (List.mem_append_left _ (by rw [hT]; simp))
      have h2 := lvs_pos a (d + 1) t (by rw [hT]; simp)
      omega
    unfold wlT at e1 e2 ⊢
    rw [lvs, List.map_append, krP_app, e1, e2, show 15 - d = (15 - (d + 1)) + 1 by omega, Nat.pow_succ]
    omega
end Go.Proofs.Ytgjenpdppobpkaa.Hu
