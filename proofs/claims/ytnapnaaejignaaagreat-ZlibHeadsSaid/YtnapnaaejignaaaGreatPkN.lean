/-
  HwA, HwB, HwC, HwD, HwF, HwG, HwH, HwI, in one text.
-/
import Derived.Test.YtnapnaaejignaaaGreatPkI
import Derived.Test.YtnapnaaejignaaaGreatPkJ
import Derived.Test.YtnapnaaejignaaaGreatPkC
import Derived.Deep.RegionHeld3
/-! HwA: Plain: no lengths of codes take fewer bits than the merged tree's. -/
namespace Go.Proofs.YtnapnaaejignaaaGreat.Hu
open Nd

/-! ### pairs of a weight and a length -/
abbrev Wl := Int × Nat
def costP : List Wl → Int
  | [] => 0
  | p :: P => p.1 * (p.2 : Int) + costP P
def krP : List Wl → Nat
  | [] => 0
  | p :: P => 2 ^ (15 - p.2) + krP P
def lenP : List Wl → Nat
  | [] => 0
  | p :: P => p.2 + lenP P
theorem costP_app : ∀ P Q : List Wl, costP (P ++ Q) = costP P + costP Q
  | [], Q => by simp [costP]
  | p :: P, Q => by rw [List.cons_append, costP, costP, costP_app P Q]; omega
theorem krP_app : ∀ P Q : List Wl, krP (P ++ Q) = krP P + krP Q
  | [], Q => by simp [krP]
  | p :: P, Q => by rw [List.cons_append, krP, krP, krP_app P Q]; omega
theorem lenP_app : ∀ P Q : List Wl, lenP (P ++ Q) = lenP P + lenP Q
  | [], Q => by simp [lenP]
  | p :: P, Q => by rw [List.cons_append, lenP, lenP, lenP_app P Q]; omega
theorem costP_perm {P Q : List Wl} (h : P.Perm Q) : costP P = costP Q := by
  induction h with
  | nil => rfl
  | cons x _ ih => rw [costP, costP, ih]
  | swap x y l => rw [costP, costP, costP, costP]; omega
  | trans _ _ ih1 ih2 => rw [ih1, ih2]
theorem krP_perm {P Q : List Wl} (h : P.Perm Q) : krP P = krP Q := by
  induction h with
  | nil => rfl
  | cons x _ ih => rw [krP, krP, ih]
  | swap x y l => rw [krP, krP, krP, krP]; omega
  | trans _ _ ih1 ih2 => rw [ih1, ih2]
theorem krP_dvd (m : Nat) : ∀ P : List Wl, (∀ p ∈ P, p.2 + m ≤ 15) → 2 ^ m ∣ krP P
  | [], _ => ⟨0, rfl⟩
  | p :: P, h => by
    rw [krP]
    have h1 := h p (by simp)
    exact Nat.dvd_add (Nat.pow_dvd_pow 2 (by omega)) (krP_dvd m P (fun q hq => h q (by simp [hq])))
/-- a longest length that stands alone may be one less -/
theorem shorter (l r : Nat) (h1 : 1 ≤ l) (h15 : l ≤ 15) (hd : 2 ^ (16 - l) ∣ r) (hk : 2 ^ (15 - l) + r ≤ 32768) : 2 ^ (15 - (l - 1)) + r ≤ 32768 := by
  obtain ⟨q, rfl⟩ := hd
  have e1 : 15 - (l - 1) = 16 - l := by omega
  have e2 : (2 : Nat) ^ (16 - l) = 2 * 2 ^ (15 - l) := by rw [show 16 - l = (15 - l) + 1 by omega, Nat.pow_succ, Nat.mul_comm]
  have e3 : (2 : Nat) ^ (16 - l) * 2 ^ (l - 1) = 32768 := by rw [← Nat.pow_add, show 16 - l + (l - 1) = 15 by omega]
  have hp : 0 < (2 : Nat) ^ (15 - l) := Nat.pow_pos (by omega)
  rw [e1]
  have hq : q < 2 ^ (l - 1) := by
    refine Nat.lt_of_mul_lt_mul_left (a := 2 ^ (16 - l)) ?_
    omega
  exact calc 2 ^ (16 - l) + 2 ^ (16 - l) * q = 2 ^ (16 - l) * (q + 1) := by rw [Nat.mul_add, Nat.mul_one, Nat.add_comm]
    _ ≤ 2 ^ (16 - l) * 2 ^ (l - 1) := Nat.mul_le_mul_left _ hq
    _ = 32768 := e3
theorem swap_cost (x w : Int) (la l : Nat) (h : x ≤ w) (hl : la ≤ l) : x * (l : Int) + w * (la : Int) ≤ x * (la : Int) + w * (l : Int) := by
  have h1 : 0 ≤ (w - x) * ((l : Int) - (la : Int)) := Int.mul_nonneg (by omega) (by omega)
  have h2 : (w - x) * ((l : Int) - (la : Int)) = w * l - w * la - (x * l - x * la) := by
    rw [Int.sub_mul, Int.mul_sub, Int.mul_sub]
  omega
theorem two_deep : ∀ (μ : Nat) (x y : Int) (la lb : Nat) (P : List Wl), 31 * (la + lb + lenP P) + (30 - (la + lb)) ≤ μ → 0 ≤ x → 0 ≤ y → la ≤ 15 → lb ≤ 15 → (∀ p ∈ P, x ≤ p.1 ∧ y ≤ p.1 ∧ p.2 ≤ 15) → 2 ^ (15 - la) + 2 ^ (15 - lb) + krP P ≤ 32768 →
    ∃ Q : List Wl, Q.map (·.1) = (x + y) :: P.map (·.1) ∧ (∀ p ∈ Q, p.2 ≤ 15) ∧ krP Q ≤ 32768 ∧ x + y + costP Q ≤ x * (la : Int) + y * (lb : Int) + costP P := by
  intro μ
  induction μ with
  | zero =>
    intro x y la lb P hμ hx hy ha hb hP hk
    obtain rfl : la = 0 := by omega
    obtain rfl : lb = 0 := by omega
    simp at hk
    omega
  | succ μ ih =>
    intro x y la lb P hμ hx hy ha hb hP hk
    by_cases h1 : ∃ p ∈ P, la < p.2
    · obtain ⟨⟨w, l⟩, hp, hl⟩ := h1
      obtain ⟨A, B, rfl⟩ := List.append_of_mem hp
      have hw := hP _ hp
      simp only at hl hw
      obtain ⟨Q, q1, q2, q3, q4⟩ := ih x y l lb (A ++ (w, la) :: B) (by simp only [lenP_app, lenP] at hμ ⊢; omega) hx hy hw.2.2 hb (fun p hp => by
        rcases List.mem_append.1 hp with h | h
        · exact hP p (by simp [h])
        · rcases List.mem_cons.1 h with rfl | h
          · exact ⟨hw.1, hw.2.1, ha⟩
          · exact hP p (by simp [h])) (by simp only [krP_app, krP] at hk ⊢; omega)
      refine ⟨Q, by rw [q1]; simp, q2, q3, ?_⟩
      have := swap_cost x w la l hw.1 (by omega)
      simp only [costP_app, costP] at q4 ⊢
      omega
    by_cases h2 : ∃ p ∈ P, lb < p.2
    · obtain ⟨⟨w, l⟩, hp, hl⟩ := h2
      obtain ⟨A, B, rfl⟩ := List.append_of_mem hp
      have hw := hP _ hp
      simp only at hl hw
      obtain ⟨Q, q1, q2, q3, q4⟩ := ih x y la l (A ++ (w, lb) :: B) (by simp only [lenP_app, lenP] at hμ ⊢; omega) hx hy ha hw.2.2 (fun p hp => by
        rcases List.mem_append.1 hp with h | h
        · exact hP p (by simp [h])
        · rcases List.mem_cons.1 h with rfl | h
          · exact ⟨hw.1, hw.2.1, hb⟩
          · exact hP p (by simp [h])) (by simp only [krP_app, krP] at hk ⊢; omega)
      refine ⟨Q, by rw [q1]; simp, q2, q3, ?_⟩
      have := swap_cost y w lb l hw.2.1 (by omega)
      simp only [costP_app, costP] at q4 ⊢
      omega
    have g1 : ∀ p ∈ P, p.2 ≤ la := fun p hp => Nat.le_of_not_lt fun h => h1 ⟨p, hp, h⟩
    have g2 : ∀ p ∈ P, p.2 ≤ lb := fun p hp => Nat.le_of_not_lt fun h => h2 ⟨p, hp, h⟩
    clear h1 h2
    rcases Nat.lt_trichotomy la lb with hlt | rfl | hlt
    · have hs := shorter lb (2 ^ (15 - la) + krP P) (by omega) hb (Nat.dvd_add (Nat.pow_dvd_pow 2 (by omega)) (krP_dvd (16 - lb) P (fun p hp => by have := g1 p hp; omega))) (by omega)
      obtain ⟨Q, q1, q2, q3, q4⟩ := ih x y la (lb - 1) P (by omega) hx hy ha (by omega) hP (by omega)
      refine ⟨Q, q1, q2, q3, ?_⟩
      have e : y * (lb : Int) = y * ((lb - 1 : Nat) : Int) + y := by
        rw [show (lb : Int) = ((lb - 1 : Nat) : Int) + 1 by omega, Int.mul_add, Int.mul_one]
      omega
    · have h1 : 1 ≤ la := by
        rcases Nat.eq_zero_or_pos la with rfl | h
        · simp at hk; omega
        · exact h
      refine ⟨(x + y, la - 1) :: P, rfl, fun p hp => ?_, ?_, ?_⟩
      · rcases List.mem_cons.1 hp with rfl | hp
        · show la - 1 ≤ 15; omega
        · exact (hP p hp).2.2
      · rw [krP]
        show 2 ^ (15 - (la - 1)) + krP P ≤ 32768
        rw [show 15 - (la - 1) = (15 - la) + 1 by omega, Nat.pow_succ]
        omega
      · rw [costP]
        show x + y + ((x + y) * ((la - 1 : Nat) : Int) + costP P) ≤ _
        have e : (la : Int) = ((la - 1 : Nat) : Int) + 1 := by omega
        rw [e, Int.add_mul, Int.mul_add, Int.mul_add]
        omega
    · have hs := shorter la (2 ^ (15 - lb) + krP P) (by omega) ha (Nat.dvd_add (Nat.pow_dvd_pow 2 (by omega)) (krP_dvd (16 - la) P (fun p hp => by have := g2 p hp; omega))) (by omega)
      obtain ⟨Q, q1, q2, q3, q4⟩ := ih x y (la - 1) lb P (by omega) hx hy (by omega) hb hP (by omega)
      refine ⟨Q, q1, q2, q3, ?_⟩
      have e : x * (la : Int) = x * ((la - 1 : Nat) : Int) + x := by
        rw [show (la : Int) = ((la - 1 : Nat) : Int) + 1 by omega, Int.mul_add, Int.mul_one]
      omega
/-! ### the merged tree -/
def ic : Nd → Int
  | .leaf _ _ => 0
  | .join c _ a b => c + ic a + ic b
def icL : List Nd → Int
  | [] => 0
  | x :: L => ic x + icL L
theorem icL_ins (x : Nd) : ∀ L, icL (insS x L) = ic x + icL L
  | [] => rfl
  | y :: L => by
    rw [insS]
    split
    · rfl
    · rw [icL, icL_ins x L, icL]; omega
theorem opt : ∀ (k g : Nat) (L : List Nd) (P : List Wl), CS L → (∀ x ∈ L, 0 ≤ x.cnt) → (P.map (·.1)).Perm (L.map cnt) → (∀ p ∈ P, p.2 ≤ 15) → krP P ≤ 32768 → icL (mrgF k g L) ≤ icL L + costP P
  | 0, g, L, P, hs, h0, hp, h15, hk => by
    have hc : 0 ≤ costP P := by
      have hw : ∀ p ∈ P, 0 ≤ p.1 := fun p hm => by
        obtain ⟨x, hx, e⟩ := List.mem_map.1 (hp.mem_iff.1 (List.mem_map.2 ⟨p, hm, rfl⟩))
        rw [← e]; exact h0 x hx
      clear hp hk h15
      induction P with
      | nil => exact Int.le_refl 0
      | cons p P ih =>
        have := ih (fun q hq => hw q (by simp [hq]))
        have := Int.mul_nonneg (hw p (by simp)) (show (0 : Int) ≤ (p.2 : Int) by omega)
        rw [costP]; omega
    show icL L ≤ _
    omega
  | k + 1, g, [], P, hs, h0, hp, h15, hk => by
    have : P = [] := by simpa using hp.length_eq
    subst this
    exact Int.le_refl _
  | k + 1, g, [x], P, hs, h0, hp, h15, hk => by
    obtain ⟨p, rfl⟩ : ∃ p, P = [p] := by
      have hl : P.length = 1 := by simpa using hp.length_eq
      match P, hl with
      | [p], _ => exact ⟨p, rfl⟩
    have e : p.1 = x.cnt := by simpa using hp
    have := Int.mul_nonneg (h0 x (by simp)) (show (0 : Int) ≤ (p.2 : Int) by omega)
    show icL [x] ≤ icL [x] + costP [p]
    rw [costP, costP, e]
    omega
  | k + 1, g, a :: b :: L, P, hs, h0, hp, h15, hk => by
    obtain ⟨s1, s2⟩ := List.pairwise_cons.1 hs
    obtain ⟨s3, s4⟩ := List.pairwise_cons.1 s2
    have pull : ∀ (P : List Wl) (c : Int) (R : List Int), (P.map (·.1)).Perm (c :: R) → ∃ l P', P.Perm ((c, l) :: P') ∧ (P'.map (·.1)).Perm R := fun P c R h => by
      obtain ⟨⟨c', l⟩, hm, e⟩ := List.mem_map.1 (h.mem_iff.2 (List.mem_cons_self (a := c) (l := R)))
      simp only at e
      subst e
      obtain ⟨A, B, rfl⟩ := List.append_of_mem hm
      refine ⟨l, A ++ B, List.perm_middle, ?_⟩
      have h2 := (List.perm_middle (a := (c', l)) (l₁ := A) (l₂ := B)).map (·.1)
      exact (h2.symm.trans h).cons_inv
    obtain ⟨la, P1, p1, p2⟩ := pull P a.cnt _ hp
    obtain ⟨lb, P2, p3, p4⟩ := pull P1 b.cnt _ p2
    have hpp : P.Perm ((a.cnt, la) :: (b.cnt, lb) :: P2) := p1.trans (p3.cons _)
    have hk2 := krP_perm hpp
    have hc2 := costP_perm hpp
    have h15' : ∀ p ∈ (a.cnt, la) :: (b.cnt, lb) :: P2, p.2 ≤ 15 := fun p hm => h15 p (hpp.mem_iff.2 hm)
    rw [krP, krP] at hk2
    rw [costP, costP] at hc2
    simp only at hk2 hc2
    have hP2 : ∀ p ∈ P2, a.cnt ≤ p.1 ∧ b.cnt ≤ p.1 ∧ p.2 ≤ 15 := fun p hm => by
      obtain ⟨x, hx, e⟩ := List.mem_map.1 (p4.mem_iff.1 (List.mem_map.2 ⟨p, hm, rfl⟩))
      rw [← e]
      exact ⟨s1 x (by simp [hx]), s3 x hx, h15' p (by simp [hm])⟩
    obtain ⟨Q, q1, q2, q3, q4⟩ := two_deep _ a.cnt b.cnt la lb P2 (Nat.le_refl _) (h0 a (by simp)) (h0 b (by simp)) (h15' (a.cnt, la) (by simp)) (h15' (b.cnt, lb) (by simp)) hP2 (by omega)
    have hi := opt k (g + 1) (insS (.join (a.cnt + b.cnt) g a b) L) Q (insS_cs _ _ s4) (fun x hx => by
      rcases List.mem_cons.1 ((insS_perm _ L).mem_iff.1 hx) with rfl | hx
      · have := h0 a (by simp); have := h0 b (by simp); rw [cnt]; omega
      · exact h0 x (by simp [hx])) (by
      rw [q1]
      exact (p4.cons _).trans ((insS_perm (.join (a.cnt + b.cnt) g a b) L).map cnt).symm) q2 q3
    rw [mrgF]
    rw [icL_ins, ic] at hi
    rw [icL, icL]
    omega
/-- counts are sums -/
def Cns : Nd → Prop
  | .leaf _ _ => True
  | .join c _ a b => c = a.cnt + b.cnt ∧ Cns a ∧ Cns b
theorem cns_mrg : ∀ (k g : Nat) (L : List Nd), (∀ x ∈ L, Cns x) → ∀ x ∈ mrgF k g L, Cns x
  | 0, _, _, h => h
  | k + 1, _, [], h => h
  | k + 1, _, [_], h => h
  | k + 1, g, a :: b :: L, h => by
    rw [mrgF]
    refine cns_mrg k (g + 1) _ (fun x hx => ?_)
    rcases List.mem_cons.1 ((insS_perm _ L).mem_iff.1 hx) with rfl | hx
    · exact ⟨rfl, h a (by simp), h b (by simp)⟩
    · exact h x (by simp [hx])
def wlT (T : List (Int × Nat × Nat)) : List Wl := T.map fun t => (t.1, t.2.2)
theorem cost_tree : ∀ (x : Nd) (d : Nat), Cns x → costP (wlT (lvs x d)) = x.cnt * (d : Int) + ic x
  | .leaf c s, d, _ => by simp [lvs, wlT, costP, cnt, ic]
  | .join c g a b, d, h => by
    obtain ⟨h1, h2, h3⟩ := h
    have e1 := cost_tree a (d + 1) h2
    have e2 := cost_tree b (d + 1) h3
    unfold wlT at e1 e2 ⊢
    rw [lvs, List.map_append, costP_app, e1, e2, cnt, ic, h1]
    push_cast
    rw [Int.mul_add, Int.mul_add, Int.add_mul]
    omega
theorem kr_tree : ∀ (x : Nd) (d : Nat), (∀ t ∈ lvs x d, t.2.2 ≤ 15) → krP (wlT (lvs x d)) = 2 ^ (15 - d)
  | .leaf c s, d, _ => by simp [lvs, wlT, krP]
  | .join c g a b, d, h => by
    rw [lvs] at h
    have e1 := kr_tree a (d + 1) (fun t ht => h t (List.mem_append_left _ ht))
    have e2 := kr_tree b (d + 1) (fun t ht => h t (List.mem_append_right _ ht))
    have hd : d + 1 ≤ 15 := by
      have hne : lvs a (d + 1) ≠ [] := by
        clear h e1 e2
        generalize d + 1 = e
        induction a generalizing e with
        | leaf => simp [lvs]
        | join c g a b iha _ => simp [lvs, iha]
      obtain ⟨t, T, hT⟩ := List.exists_cons_of_ne_nil hne
      have h1 := h t (List.mem_append_left _ (by rw [hT]; simp))
      have h2 := lvs_pos a (d + 1) t (by rw [hT]; simp)
      omega
    unfold wlT at e1 e2 ⊢
    rw [lvs, List.map_append, krP_app, e1, e2, show 15 - d = (15 - (d + 1)) + 1 by omega, Nat.pow_succ]
    omega
end Go.Proofs.YtnapnaaejignaaaGreat.Hu

/-! HwB: Plain: the bits that lengths take, symbol by symbol; the merged tree's lengths are least; how deep small counts may lie. -/
namespace Go.Proofs.YtnapnaaejignaaaGreat.Hu
open Nd

/-! ### positive counts with their symbols -/
def Zs (l : List Int) (k : Nat) : List (Int × Nat) := ((l.zipIdx k).filter fun p => decide (0 < p.1)).map fun p => (p.1, p.2)
theorem Zs_cons (c : Int) (l : List Int) (k : Nat) : Zs (c :: l) k = if 0 < c then (c, k) :: Zs l (k + 1) else Zs l (k + 1) := by
  unfold Zs
  rw [List.zipIdx_cons, List.filter_cons]
  by_cases h : 0 < c
  · rw [if_pos h]; simp [h]
  · rw [if_neg h]; simp [h]
/-- the bits that lengths take -/
def dot : List Int → List Int → Nat → Int
  | [], _, _ => 0
  | c :: l, O, k => c * O.getD k 0 + dot l O (k + 1)
def wlO (Z : List (Int × Nat)) (O : List Int) : List Wl := Z.map fun p => (p.1, (O.getD p.2 0).toNat)
theorem dot_cost (O : List Int) (hO : ∀ y ∈ O, 0 ≤ y) : ∀ (l : List Int) (k : Nat), (∀ c ∈ l, 0 ≤ c) → dot l O k = costP (wlO (Zs l k) O)
  | [], k, _ => rfl
  | c :: l, k, h => by
    have ih := dot_cost O hO l (k + 1) (fun x hx => h x (by simp [hx]))
    have hc := h c (by simp)
    rw [dot, Zs_cons, ih]
    have h0 : 0 ≤ O.getD k 0 := by
      rw [List.getD_eq_getElem?_getD]
      cases hk : O[k]? with
      | none => simp
      | some y => simpa using hO y (List.mem_of_getElem? hk)
    by_cases hp : 0 < c
    · rw [if_pos hp]
      show _ = costP ((c, (O.getD k 0).toNat) :: wlO (Zs l (k + 1)) O)
      rw [costP]
      show _ = c * (((O.getD k 0).toNat : Nat) : Int) + _
      rw [Int.toNat_of_nonneg h0]
    · rw [if_neg hp, show c = 0 by omega, Int.zero_mul, Int.zero_add]
theorem kr_wl (O : List Int) : ∀ (l : List Int) (k : Nat), (∀ i c, l[i]? = some c → 0 < c → 0 < O.getD (k + i) 0) → krP (wlO (Zs l k) O) ≤ kraS (O.drop k)
  | [], k, _ => Nat.zero_le _
  | c :: l, k, h => by
    have ih := kr_wl O l (k + 1) (fun i c' hi hc => by have := h (i + 1) c' (by simpa using hi) hc; rwa [show k + (i + 1) = k + 1 + i by omega] at this)
    rw [Zs_cons]
    have hstep : kraS (O.drop (k + 1)) ≤ kraS (O.drop k) := by
      by_cases hk : k < O.length
      · rw [List.drop_eq_getElem_cons hk, kraS]; omega
      · rw [List.drop_eq_nil_of_le (by omega), List.drop_eq_nil_of_le (by omega)]; exact Nat.le_refl _
    by_cases hp : 0 < c
    · have h1 := h 0 c (by simp) hp
      rw [Nat.add_zero] at h1
      have hk : k < O.length := by
        refine Nat.lt_of_not_le fun hk => ?_
        rw [List.getD_eq_getElem?_getD, List.getElem?_eq_none hk] at h1
        simp at h1
      have hg : O.getD k 0 = O[k] := by rw [List.getD_eq_getElem?_getD, List.getElem?_eq_getElem hk]; rfl
      rw [if_pos hp, List.drop_eq_getElem_cons hk, kraS, ← hg, if_pos h1]
      show krP ((c, (O.getD k 0).toNat) :: wlO (Zs l (k + 1)) O) ≤ _
      rw [krP]
      show 2 ^ (15 - (O.getD k 0).toNat) + _ ≤ _
      omega
    · rw [if_neg hp]
      exact Nat.le_trans ih hstep
/-! ### the tree's lengths -/
theorem tree_wl (l : List Int) (h : 2 ≤ (leavesF l 0).length) : (wlT (lvs (treeN l) 0)).Perm (wlO (Zs l 0) (deepN l)) := by
  have h1 := (tree_lfs l (by omega)).map (fun p : Int × Nat => (p.1, ((deepN l).getD p.2 0).toNat))
  rw [← lvs_lfs (treeN l) 0, List.map_map] at h1
  refine List.Perm.trans (List.Perm.of_eq ?_) h1
  unfold wlT
  refine List.map_congr_left (fun t ht => ?_)
  show (t.1, t.2.2) = (t.1, ((deepN l).getD t.2.1 0).toNat)
  have hm : (t.1, t.2.1) ∈ lfs (treeN l) := by rw [← lvs_lfs (treeN l) 0]; exact List.mem_map.2 ⟨t, ht, rfl⟩
  have hz := (zip_pos l 0 t.1 t.2.1).1 ((tree_lfs l (by omega)).mem_iff.1 hm)
  rw [Nat.sub_zero] at hz
  rcases deepN_at l h t.2.1 t.1 hz.2.1 with ⟨h2, _⟩ | ⟨_, d, h3, h4⟩
  · omega
  · have hd : d = t.2.2 := by
      have hn := tree_nodup l (by omega : 0 < (leavesF l 0).length)
      obtain ⟨i, hi⟩ := List.getElem?_of_mem h3
      obtain ⟨j, hj⟩ := List.getElem?_of_mem ht
      have hil := (List.getElem?_eq_some_iff.1 hi).1
      have e : ((lvs (treeN l) 0).map (·.2.1))[i]? = ((lvs (treeN l) 0).map (·.2.1))[j]? := by rw [List.getElem?_map, List.getElem?_map, hi, hj]; rfl
      have hij := (List.getElem?_inj (by simpa using hil) hn).1 e
      subst hij
      rw [hi] at hj
      have := Option.some.inj hj
      rw [← this]
    rw [List.getD_eq_getElem?_getD, h4, hd]
    rfl
theorem cns_tree (l : List Int) (h : 0 < (leavesF l 0).length) : Cns (treeN l) := by
  have h1 := cns_mrg (leavesF l 0).length 0 (srtS (leavesF l 0)) (fun x hx => by
    obtain ⟨c, s, rfl, _⟩ := leavesF_mem l 0 x ((srtS_perm _).mem_iff.1 hx)
    exact trivial)
  rw [tree_mrg l h] at h1
  exact h1 _ (by simp)
theorem deepN_nn (l : List Int) : ∀ y ∈ deepN l, 0 ≤ y := fun y hy => by
  by_cases hk : 2 ≤ (leavesF l 0).length
  · obtain ⟨s, hys⟩ := List.getElem?_of_mem hy
    have hsl : s < l.length := by have := (List.getElem?_eq_some_iff.1 hys).1; rw [deepN_len] at this; exact this
    rcases deepN_at l hk s _ (List.getElem?_eq_getElem hsl) with ⟨_, h2⟩ | ⟨_, d, h2, h3⟩
    · rw [hys] at h2; have := Option.some.inj h2; omega
    · rw [hys] at h3; have := Option.some.inj h3; omega
  · match hleaf : leavesF l 0, hk with
    | [], _ =>
      rw [deepN_more (by rw [hleaf]; simp), hleaf] at hy
      have : y = 0 := List.eq_of_mem_replicate hy
      omega
    | [x], _ =>
      rw [deepN_one hleaf] at hy
      rcases mem_set_cases hy with hy | hy
      · have : y = 0 := List.eq_of_mem_replicate hy
        omega
      · omega
    | _ :: _ :: _, hk => simp at hk
theorem leaves_zs : ∀ (l : List Int) (k : Nat), (leavesF l k).map cnt = (Zs l k).map (·.1)
  | [], _ => rfl
  | c :: l, k => by
    rw [leavesF, Zs_cons]
    split
    · rw [List.map_cons, List.map_cons, leaves_zs l (k + 1)]; rfl
    · exact leaves_zs l (k + 1)
theorem icL_leaves : ∀ (L : List Nd), (∀ x ∈ L, ∃ c s, x = .leaf c s) → icL L = 0
  | [], _ => rfl
  | x :: L, h => by
    obtain ⟨c, s, rfl⟩ := h x (by simp)
    rw [icL, ic, icL_leaves L (fun y hy => h y (by simp [hy]))]
    rfl
/-- two counts or more: no other lengths take fewer bits -/
theorem least (l O : List Int) (hl : ∀ c ∈ l, 0 ≤ c) (hk : 2 ≤ (leavesF l 0).length) (hO : ∀ y ∈ O, 0 ≤ y ∧ y ≤ 15) (hkr : kraS O ≤ 32768) (hp : ∀ i c, l[i]? = some c → 0 < c → 0 < O.getD i 0) :
    dot l (deepN l) 0 ≤ dot l O 0 := by
  have hlv : ∀ x ∈ srtS (leavesF l 0), ∃ c s, x = .leaf c s ∧ 0 < c := fun x hx => by
    obtain ⟨c, s, e, _, _, hc, _⟩ := leavesF_mem l 0 x ((srtS_perm _).mem_iff.1 hx)
    exact ⟨c, s, e, hc⟩
  have h1 := opt (leavesF l 0).length 0 (srtS (leavesF l 0)) (wlO (Zs l 0) O) (srtS_cs _) (fun x hx => by
    obtain ⟨c, s, rfl, hc⟩ := hlv x hx
    rw [cnt]; omega) (by
    have e : (wlO (Zs l 0) O).map (·.1) = (Zs l 0).map (·.1) := by unfold wlO; rw [List.map_map]; rfl
    rw [e, ← leaves_zs]
    exact ((srtS_perm _).map cnt).symm) (fun p hp => by
    obtain ⟨q, hq, rfl⟩ := List.mem_map.1 hp
    show (O.getD q.2 0).toNat ≤ 15
    rw [List.getD_eq_getElem?_getD]
    cases hq2 : O[q.2]? with
    | none => simp
    | some y => have := hO y (List.mem_of_getElem? hq2); simp; omega) (Nat.le_trans (kr_wl O l 0 (fun i c hi hc => by rw [Nat.zero_add]; exact hp i c hi hc)) (by rw [List.drop_zero]; exact hkr))
  have hz : icL (srtS (leavesF l 0)) = 0 := icL_leaves _ (fun x hx => by obtain ⟨c, s, e, _⟩ := hlv x hx; exact ⟨c, s, e⟩)
  rw [tree_mrg l (by omega), hz, icL, icL] at h1
  have h2 := cost_tree (treeN l) 0 (cns_tree l (by omega))
  rw [costP_perm (tree_wl l hk)] at h2
  rw [dot_cost _ (deepN_nn l) l 0 hl, dot_cost _ (fun y hy => (hO y hy).1) l 0 hl, h2]
  simp
  omega
/-- the lengths of two counts or more are full -/
theorem kra_zeros : ∀ l : List Int, (∀ x ∈ l, x = 0) → kraS l = 0
  | [], _ => rfl
  | x :: l, h => by
    rw [kraS, h x (by simp), kra_zeros l (fun y hy => h y (by simp [hy]))]
    rfl
theorem kr_eq (O : List Int) : ∀ (l : List Int) (k : Nat), k + l.length = O.length → (∀ i c, l[i]? = some c → (0 < c ↔ 0 < O.getD (k + i) 0)) → krP (wlO (Zs l k) O) = kraS (O.drop k)
  | [], k, hl, _ => by rw [List.drop_eq_nil_of_le (by simp at hl; omega)]; rfl
  | c :: l, k, hl, h => by
    rw [List.length_cons] at hl
    have ih := kr_eq O l (k + 1) (by omega) (fun i c' hi => by have := h (i + 1) c' (by simpa using hi); rwa [show k + (i + 1) = k + 1 + i by omega] at this)
    have hk : k < O.length := by omega
    have hg : O.getD k 0 = O[k] := by rw [List.getD_eq_getElem?_getD, List.getElem?_eq_getElem hk]; rfl
    have h1 := h 0 c (by simp)
    rw [Nat.add_zero] at h1
    rw [Zs_cons, List.drop_eq_getElem_cons hk, kraS, ← hg, ← ih]
    by_cases hp : 0 < c
    · rw [if_pos hp, if_pos (h1.1 hp)]
      rfl
    · rw [if_neg hp, if_neg (fun h2 => hp (h1.2 h2)), Nat.zero_add]
theorem full_deep (l : List Int) (hk : 2 ≤ (leavesF l 0).length) (h15 : ∀ y ∈ deepN l, y ≤ 15) : kraS (deepN l) = 32768 := by
  have h1 := kr_eq (deepN l) l 0 (by rw [deepN_len, Nat.zero_add]) (fun i c hi => by
    rw [Nat.zero_add, List.getD_eq_getElem?_getD]
    rcases deepN_at l hk i c hi with ⟨h1, h2⟩ | ⟨h1, d, h2, h3⟩
    · rw [h2]; simp; omega
    · rw [h3]
      simp only [Option.getD_some]
      have : 0 < d := by
        have hd := lvs_pos (treeN l) 0 _ h2
        cases ht : treeN l with
        | leaf c s =>
          have e := tree_lfs l (by omega : 0 < (leavesF l 0).length)
          rw [ht] at e
          have e2 := e.length_eq
          have e3 := congrArg List.length (leaves_zs l 0)
          simp only [List.length_map] at e3
          unfold Zs at e3
          rw [List.length_map] at e3 e2
          simp [lfs] at e2
          omega
        | join c g a b =>
          rw [ht, lvs] at h2
          rcases List.mem_append.1 h2 with h | h
          · have := lvs_pos a _ _ h; simp only at this; omega
          · have := lvs_pos b _ _ h; simp only at this; omega
      omega)
  rw [List.drop_zero] at h1
  rw [← h1, ← krP_perm (tree_wl l hk), kr_tree (treeN l) 0 (fun t ht => ?_)]
  have hm : (t.1, t.2.1) ∈ lfs (treeN l) := by rw [← lvs_lfs (treeN l) 0]; exact List.mem_map.2 ⟨t, ht, rfl⟩
  have hw := (tree_wl l hk).mem_iff.1 (List.mem_map.2 ⟨t, ht, rfl⟩)
  obtain ⟨p, hp, e⟩ := List.mem_map.1 hw
  have e2 : ((deepN l).getD p.2 0).toNat = t.2.2 := by have := congrArg Prod.snd e; simpa using this
  rw [← e2, List.getD_eq_getElem?_getD]
  cases hq : (deepN l)[p.2]? with
  | none => simp
  | some y => have := h15 y (List.mem_of_getElem? hq); simp; omega
/-! ### how deep -/
def fibN : Nat → Nat
  | 0 => 1
  | 1 => 2
  | n + 2 => fibN (n + 1) + fibN n
def chd : Nd → Int
  | .leaf _ _ => 0
  | .join _ _ a b => max a.cnt b.cnt
structure Fb (L : List Nd) : Prop where
  pos : ∀ x ∈ L, 0 < x.cnt
  low : ∀ x ∈ L, (fibN (hgt x) : Int) ≤ x.cnt ∧ (0 < hgt x → (fibN (hgt x - 1) : Int) ≤ chd x)
  kid : ∀ x ∈ L, ∀ y ∈ L, chd x ≤ y.cnt
theorem fib_mono : ∀ n, fibN n ≤ fibN (n + 1)
  | 0 => by decide
  | n + 1 => by rw [show fibN (n + 1 + 1) = fibN (n + 1) + fibN n from rfl]; omega
theorem Fb.step {a b : Nd} {L : List Nd} (h : Fb (a :: b :: L)) (hs : CS (a :: b :: L)) (g : Nat) : Fb (insS (.join (a.cnt + b.cnt) g a b) L) := by
  obtain ⟨s1, s2⟩ := List.pairwise_cons.1 hs
  obtain ⟨s3, s4⟩ := List.pairwise_cons.1 s2
  have hab := s1 b (by simp)
  have pa := h.pos a (by simp)
  have pb := h.pos b (by simp)
  have la := h.low a (by simp)
  have lb := h.low b (by simp)
  have kab := h.kid a (by simp) b (by simp)
  have kba := h.kid b (by simp) a (by simp)
  have hm : ∀ x, x ∈ insS (.join (a.cnt + b.cnt) g a b) L → x = .join (a.cnt + b.cnt) g a b ∨ x ∈ L := fun x hx => by simpa using (insS_perm _ L).mem_iff.1 hx
  have key : ∀ (u v : Nd), hgt v ≤ hgt u → (fibN (hgt u) : Int) ≤ u.cnt → (0 < hgt u → (fibN (hgt u - 1) : Int) ≤ chd u) → chd u ≤ v.cnt → 0 < v.cnt → (fibN (hgt u + 1) : Int) ≤ u.cnt + v.cnt := by
    intro u v _ h1 h2 h3 h4
    cases hu : hgt u with
    | zero =>
      rw [hu] at h1
      have e0 : fibN 0 = 1 := rfl
      have e1 : fibN (0 + 1) = 2 := rfl
      rw [e1]; rw [e0] at h1; omega
    | succ n =>
      rw [hu] at h1 h2
      have h5 := h2 (by omega)
      rw [Nat.add_sub_cancel] at h5
      have e : fibN (n + 1 + 1) = fibN (n + 1) + fibN n := rfl
      rw [e]; push_cast; omega
  refine ⟨fun x hx => ?_, fun x hx => ?_, fun x hx y hy => ?_⟩
  · rcases hm x hx with rfl | hx
    · rw [cnt]; omega
    · exact h.pos x (by simp [hx])
  · rcases hm x hx with rfl | hx
    · rw [hgt, cnt, chd]
      have hmx : max (hgt a) (hgt b) + 1 - 1 = max (hgt a) (hgt b) := by omega
      rw [hmx]
      by_cases hh : hgt b ≤ hgt a
      · rw [Nat.max_eq_left hh]
        exact ⟨key a b hh la.1 la.2 kab pb, fun _ => by omega⟩
      · rw [Nat.max_eq_right (by omega)]
        have := key b a (by omega) lb.1 lb.2 kba pa
        exact ⟨by omega, fun _ => by omega⟩
    · exact h.low x (by simp [hx])
  · rcases hm x hx with rfl | hx
    · rw [chd]
      rcases hm y hy with rfl | hy
      · rw [cnt]; omega
      · have := s1 y (by simp [hy]); have := s3 y hy; omega
    · rcases hm y hy with rfl | hy
      · have := h.kid x (by simp [hx]) a (by simp)
        rw [cnt]; omega
      · exact h.kid x (by simp [hx]) y (by simp [hy])
theorem Fb.mrg : ∀ (k g : Nat) (L : List Nd), Fb L → CS L → Fb (mrgF k g L)
  | 0, _, _, h, _ => h
  | k + 1, _, [], h, _ => h
  | k + 1, _, [_], h, _ => h
  | k + 1, g, a :: b :: L, h, hs => by
    rw [mrgF]
    exact Fb.mrg k (g + 1) _ (h.step hs g) (insS_cs _ _ (List.pairwise_cons.1 (List.pairwise_cons.1 hs).2).2)
theorem fib_mono2 {m n : Nat} (h : m ≤ n) : fibN m ≤ fibN n := by
  induction h with
  | refl => exact Nat.le_refl _
  | step _ ih => exact Nat.le_trans ih (fib_mono _)
theorem small_fit (l : List Int) (hn : l.length ≤ 60) (h : ∀ c ∈ l, 0 ≤ c ∧ c ≤ 20) : okB 15 l = true := by
  unfold okB
  refine decide_eq_true ?_
  by_cases h0 : l.length = 0
  · exact .inl h0
  refine .inr (maxL_le _ _ (by rw [deepN_len]; omega) (fun y hy => ?_))
  by_cases hk : 2 ≤ (leavesF l 0).length
  · obtain ⟨s, hys⟩ := List.getElem?_of_mem hy
    have hsl : s < l.length := by have := (List.getElem?_eq_some_iff.1 hys).1; rw [deepN_len] at this; exact this
    rcases deepN_at l hk s _ (List.getElem?_eq_getElem hsl) with ⟨_, h2⟩ | ⟨_, d, h2, h3⟩
    · rw [hys] at h2; have := Option.some.inj h2; omega
    · rw [hys] at h3
      have hyd := Option.some.inj h3
      have hd := lvs_hgt _ _ _ h2
      simp only [Nat.zero_add] at hd
      have hlv : ∀ x ∈ srtS (leavesF l 0), ∃ c s, x = .leaf c s ∧ 0 < c := fun x hx => by
        obtain ⟨c, s, e, _, _, hc, _⟩ := leavesF_mem l 0 x ((srtS_perm _).mem_iff.1 hx)
        exact ⟨c, s, e, hc⟩
      have hf : Fb (srtS (leavesF l 0)) := ⟨fun x hx => by obtain ⟨c, s, rfl, hc⟩ := hlv x hx; exact hc, fun x hx => by
          obtain ⟨c, s, rfl, hc⟩ := hlv x hx
          refine ⟨?_, fun h => by simp [hgt] at h⟩
          show ((1 : Nat) : Int) ≤ c
          omega, fun x hx y hy => by
          obtain ⟨c, s, rfl, hc⟩ := hlv x hx
          obtain ⟨c2, s2, rfl, hc2⟩ := hlv y hy
          rw [chd, cnt]; omega⟩
      have hm := hf.mrg (leavesF l 0).length 0 _ (srtS_cs _)
      have hsum := sumC_mrg (leavesF l 0).length 0 (srtS (leavesF l 0))
      rw [tree_mrg l (by omega)] at hm hsum
      have hlow := (hm.low (treeN l) (by simp)).1
      rw [sumC_srt, sumC, sumC, Int.add_zero] at hsum
      have hb : ∀ (l : List Int) (k : Nat), (∀ c ∈ l, 0 ≤ c ∧ c ≤ 20) → sumC (leavesF l k) ≤ 20 * l.length := by
        intro l
        induction l with
        | nil => intro k _; simp [leavesF, sumC]
        | cons c l ih =>
          intro k h
          have hc := h c (by simp)
          have := ih (k + 1) (fun d hd => h d (by simp [hd]))
          rw [leavesF, List.length_cons]
          split
          · rw [sumC, cnt]; omega
          · omega
      have hbl := hb l 0 h
      have h15 : hgt (treeN l) ≤ 15 := by
        refine Nat.le_of_not_lt fun hh => ?_
        have h16 := fib_mono2 (show 15 ≤ hgt (treeN l) by omega)
        have e : fibN 15 = 1597 := by decide +kernel
        omega
      omega
  · match hleaf : leavesF l 0, hk with
    | [], _ =>
      rw [deepN_more (by rw [hleaf]; simp), hleaf] at hy
      have : y = 0 := List.eq_of_mem_replicate hy
      omega
    | [x], _ =>
      rw [deepN_one hleaf] at hy
      rcases mem_set_cases hy with hy | hy
      · have : y = 0 := List.eq_of_mem_replicate hy
        omega
      · omega
    | _ :: _ :: _, hk => simp at hk
end Go.Proofs.YtnapnaaejignaaaGreat.Hu

/-! HwC: The statement HuffLeast walked. -/
namespace Go.Proofs.YtnapnaaejignaaaGreat.Hu
open Go.RowKit

theorem dot_snoc (O : List Int) (x : Int) : ∀ (l : List Int) (k : Nat), dot (l ++ [x]) O k = dot l O k + x * O.getD (k + l.length) 0
  | [], k => by simp [dot]
  | c :: l, k => by
    rw [List.cons_append, dot, dot, dot_snoc O x l (k + 1), List.length_cons, show k + 1 + l.length = k + (l.length + 1) by omega]
    omega
theorem dot_take (l O : List Int) (i : Nat) (x y : Int) (hx : l[i]? = some x) (hy : O[i]? = some y) : dot (l.take (i + 1)) O 0 = dot (l.take i) O 0 + x * y := by
  have hi := (List.getElem?_eq_some_iff.1 hx).1
  rw [ints_take l i x hx, dot_snoc, Nat.zero_add, List.length_take, Nat.min_eq_left (by omega), List.getD_eq_getElem?_getD, hy]
  rfl
theorem mul_bd {x y : Int} (h1 : 0 ≤ x) (h2 : x ≤ 20) (h3 : 0 ≤ y) (h4 : y ≤ 15) : 0 ≤ x * y ∧ x * y ≤ 300 :=
  ⟨Int.mul_nonneg h1 h3, Int.le_trans (Int.mul_le_mul h2 h4 h3 (by omega)) (by omega)⟩
/-- all of a statement's counts are small -/
structure Small (f O : List Int) (i : Nat) : Prop where
  rng : ∀ j c, j < i → f[j]? = some c → 0 ≤ c ∧ c ≤ 20
  pos : ∀ j c y, j < i → f[j]? = some c → O[j]? = some y → 0 < c → y ≠ 0
theorem Small.lens {f O : List Int} (h : Small f O f.length) (hl : f.length ≤ 60) : lensErr f 15 = false ∧ lensO f 15 = deepN f := by
  have hr : ∀ c ∈ f, 0 ≤ c ∧ c ≤ 20 := fun c hc => by
    obtain ⟨j, hj⟩ := List.getElem?_of_mem hc
    exact h.rng j c (List.getElem?_eq_some_iff.1 hj).1 hj
  have he : lensErr f 15 = false := by
    unfold lensErr
    rw [Bool.or_eq_false_iff, List.any_eq_false]
    refine ⟨fun x hx => by have := hr x hx; simp; omega, decide_eq_false ?_⟩
    have := someN_le f
    have e : ((2 ^ (15 : Int).toNat : Nat) : Int) = 32768 := by decide
    rw [e]
    omega
  refine ⟨he, ?_⟩
  unfold lensO
  rw [he]
  show lensF 40 15 f = deepN f
  rw [lensF, if_pos (small_fit f hl hr)]
theorem least_all {f O : List Int} (h : Small f O f.length) (hlen : f.length ≤ O.length) (hO : ∀ y ∈ O, 0 ≤ y ∧ y ≤ 15) (hk : kra O ≤ 32768) : dot f (deepN f) 0 ≤ dot f O 0 := by
  have hr : ∀ c ∈ f, 0 ≤ c := fun c hc => by
    obtain ⟨j, hj⟩ := List.getElem?_of_mem hc
    exact (h.rng j c (List.getElem?_eq_some_iff.1 hj).1 hj).1
  have hp : ∀ i c, f[i]? = some c → 0 < c → 0 < O.getD i 0 := fun i c hi hc => by
    have hil := (List.getElem?_eq_some_iff.1 hi).1
    have hO2 : O[i]? = some O[i] := List.getElem?_eq_getElem (by omega)
    have := h.pos i c _ hil hi hO2 hc
    have := hO O[i] (List.getElem_mem _)
    rw [List.getD_eq_getElem?_getD, hO2]
    simp only [Option.getD_some]
    omega
  by_cases h2 : 2 ≤ (leavesF f 0).length
  · exact least f O hr h2 hO (by rw [← kra_sum O hO]; exact hk) hp
  · rw [dot_cost _ (deepN_nn f) f 0 hr, dot_cost _ (fun y hy => (hO y hy).1) f 0 hr]
    have hz := leaves_zs f 0
    match hleaf : leavesF f 0, h2 with
    | [], _ =>
      rw [hleaf] at hz
      have : Zs f 0 = [] := by
        have := congrArg List.length hz
        exact List.eq_nil_of_length_eq_zero (by simpa using this.symm)
      rw [this]
      exact Int.le_refl _
    | [x], _ =>
      rw [hleaf] at hz
      obtain ⟨c, s, rfl, _, hsl, hc, hs⟩ := leavesF_mem f 0 x (by rw [hleaf]; simp)
      rw [Nat.sub_zero] at hs
      rw [Nat.zero_add] at hsl
      have hZ : Zs f 0 = [(c, s)] := by
        have h3 := leavesF_lfs f 0
        rw [hleaf] at h3
        simpa [lfsL, lfs, Zs] using h3.symm
      have hD : (deepN f).getD s 0 = 1 := by
        rw [deepN_one hleaf, List.getD_eq_getElem?_getD]
        show ((zers f.length).set s 1)[s]?.getD 0 = 1
        rw [List.getElem?_set_self (by rw [zers_len]; exact hsl)]
        rfl
      have hO1 := hp s c hs hc
      rw [hZ]
      show c * ((((deepN f).getD s 0).toNat : Nat) : Int) + 0 ≤ c * (((O.getD s 0).toNat : Nat) : Int) + 0
      rw [hD]
      have := Int.mul_le_mul_of_nonneg_left (show (((1 : Int).toNat : Nat) : Int) ≤ (((O.getD s 0).toNat : Nat) : Int) by omega) (show 0 ≤ c by omega)
      omega
    | _ :: _ :: _, h2 => simp at h2
theorem deepN_15 {f : List Int} (h : okB 15 f = true) : ∀ y ∈ deepN f, 0 ≤ y ∧ y ≤ 15 := fun y hy => by
  refine ⟨deepN_nn f y hy, ?_⟩
  rw [okB_all] at h
  exact of_decide_eq_true (List.all_eq_true.1 h y hy)
end Go.Proofs.YtnapnaaejignaaaGreat.Hu

/-! HwD: Plain: canonical codes are free of beginnings; more counts have no longer code. -/
namespace Go.Proofs.YtnapnaaejignaaaGreat.Hu
open Go.RowKit

theorem nxN_far (c : Nat → Nat) (m : Nat) : ∀ d, 2 ^ d * (2 * (nxN c m + c m)) ≤ nxN c (m + 1 + d)
  | 0 => by rw [Nat.pow_zero, Nat.one_mul]; exact Nat.le_refl _
  | d + 1 => by
    have ih := nxN_far c m d
    rw [show m + 1 + (d + 1) = (m + 1 + d) + 1 by omega, nxN, Nat.pow_succ, Nat.mul_comm (2 ^ d) 2, Nat.mul_assoc]
    omega
theorem codesN_get (l : List Int) (i : Nat) (x : Int) (hi : l[i]? = some x) (hx : 0 < x) : (codesN l)[i]? = some (nxN (cntF l) x.toNat + cntI (l.take i) x.toNat) := by
  have hil := (List.getElem?_eq_some_iff.1 hi).1
  have h := codesN_at l i hil
  have hg : l.getD i 0 = x := by rw [List.getD_eq_getElem?_getD, hi]; rfl
  rw [hg, if_pos hx] at h
  rw [List.getElem?_eq_getElem (by rw [codesN, codesF_len]; exact hil)]
  rw [List.getD_eq_getElem?_getD, List.getElem?_eq_getElem (by rw [codesN, codesF_len]; exact hil)] at h
  exact congrArg some h
theorem cnt_lt (l : List Int) (i : Nat) (x : Int) (hi : l[i]? = some x) (hx : 0 < x) : cntI (l.take i) x.toNat < cntF l x.toNat := by
  have h1 := cntI_snoc (l.take i) x x.toNat
  rw [← ints_take l i x hi, if_pos (by omega)] at h1
  have h2 := cntI_take_le l (i + 1) x.toNat
  unfold cntF
  rw [if_neg (by omega)]
  omega
theorem cnt_mono (l : List Int) {i k : Nat} (h : i ≤ k) (n : Nat) : cntI (l.take i) n ≤ cntI (l.take k) n := by
  have e : l.take i = (l.take k).take i := by rw [List.take_take, Nat.min_eq_left h]
  rw [e]
  exact cntI_take_le _ _ _
theorem codes_free (l : List Int) (i k : Nat) (x y : Int) (hi : l[i]? = some x) (hk : l[k]? = some y) (hx : 0 < x) (hxy : x < y) (ci ck : Nat) (hci : (codesN l)[i]? = some ci) (hck : (codesN l)[k]? = some ck) : ci < ck / 2 ^ (y - x).toNat := by
  rw [codesN_get l i x hi hx] at hci
  rw [codesN_get l k y hk (by omega)] at hck
  have h1 := Option.some.inj hci
  have h2 := Option.some.inj hck
  have h3 := cnt_lt l i x hi hx
  have h4 := nxN_far (cntF l) x.toNat ((y - x).toNat - 1)
  rw [show x.toNat + 1 + ((y - x).toNat - 1) = y.toNat by omega] at h4
  have e : 2 ^ ((y - x).toNat - 1) * (2 * (nxN (cntF l) x.toNat + cntF l x.toNat)) = (nxN (cntF l) x.toNat + cntF l x.toNat) * 2 ^ (y - x).toNat := by
    rw [show (y - x).toNat = ((y - x).toNat - 1) + 1 by omega, Nat.pow_succ, Nat.add_sub_cancel, ← Nat.mul_assoc, Nat.mul_comm]
  rw [e] at h4
  refine Nat.lt_of_lt_of_le (by omega : ci < nxN (cntF l) x.toNat + cntF l x.toNat) ?_
  rw [Nat.le_div_iff_mul_le (Nat.pow_pos (by omega))]
  omega
theorem codes_rise (l : List Int) (i k : Nat) (x : Int) (hi : l[i]? = some x) (hk : l[k]? = some x) (hx : 0 < x) (hik : i < k) (ci ck : Nat) (hci : (codesN l)[i]? = some ci) (hck : (codesN l)[k]? = some ck) : ci < ck := by
  rw [codesN_get l i x hi hx] at hci
  rw [codesN_get l k x hk hx] at hck
  have h1 := Option.some.inj hci
  have h2 := Option.some.inj hck
  have h3 := cntI_snoc (l.take i) x x.toNat
  rw [← ints_take l i x hi, if_pos (by omega)] at h3
  have h4 := cnt_mono l (show i + 1 ≤ k by omega) x.toNat
  omega
/-! ### more counts -/
theorem dot_set (O : List Int) (i : Nat) (v : Int) (hO : i < O.length) : ∀ (l : List Int) (k : Nat), k ≤ i → i < k + l.length → dot l (O.set i v) k = dot l O k + l.getD (i - k) 0 * (v - O.getD i 0)
  | [], k, h1, h2 => by simp at h2; omega
  | c :: l, k, h1, h2 => by
    rw [dot, dot]
    by_cases hk : k = i
    · subst hk
      have e : dot l (O.set k v) (k + 1) = dot l O (k + 1) := by
        have gen : ∀ (l : List Int) (j : Nat), k < j → dot l (O.set k v) j = dot l O j := by
          intro l
          induction l with
          | nil => intro j _; rfl
          | cons c l ih => intro j hj; rw [dot, dot, ih (j + 1) (by omega), List.getD_eq_getElem?_getD, List.getElem?_set_ne (by omega), ← List.getD_eq_getElem?_getD]
        exact gen l (k + 1) (by omega)
      rw [e, Nat.sub_self, List.getD_eq_getElem?_getD, List.getElem?_set_self hO]
      show c * v + _ = _ + c * (v - _)
      rw [Int.mul_sub]
      omega
    · rw [dot_set O i v hO l (k + 1) (by omega) (by simp at h2; omega), List.getD_eq_getElem?_getD, List.getElem?_set_ne (by omega), ← List.getD_eq_getElem?_getD, show i - k = (i - (k + 1)) + 1 by omega, List.getD_cons_succ]
      omega
theorem kraS_perm {L M : List Int} (h : L.Perm M) : kraS L = kraS M := by
  induction h with
  | nil => rfl
  | cons x _ ih => rw [kraS, kraS, ih]
  | swap x y l => rw [kraS, kraS, kraS, kraS]; omega
  | trans _ _ ih1 ih2 => rw [ih1, ih2]
theorem set_perm (D : List Int) (i k : Nat) (hi : i < D.length) (hk : k < D.length) : ((D.set i (D.getD k 0)).set k (D.getD i 0)).Perm D := swp_perm D i k hi hk
theorem leaves_two (l : List Int) (i k : Nat) (hik : i ≠ k) (a b : Int) (hi : l[i]? = some a) (hk : l[k]? = some b) (ha : 0 < a) (hb : 0 < b) : 2 ≤ (leavesF l 0).length := by
  have e := congrArg List.length (leaves_zs l 0)
  simp only [List.length_map] at e
  rw [e]
  have m1 : (a, i) ∈ Zs l 0 := (zip_pos l 0 a i).2 ⟨Nat.zero_le _, by simpa using hi, ha⟩
  have m2 : (b, k) ∈ Zs l 0 := (zip_pos l 0 b k).2 ⟨Nat.zero_le _, by simpa using hk, hb⟩
  match Zs l 0, m1, m2 with
  | [], h, _ => cases h
  | [p], h1, h2 =>
    rw [List.mem_singleton] at h1 h2
    rw [← h1] at h2
    have := congrArg Prod.snd h2
    exact absurd this.symm hik
  | _ :: _ :: _, _, _ => simp
theorem deep_pos (l : List Int) (hk : 2 ≤ (leavesF l 0).length) (t : Int × Nat × Nat) (ht : t ∈ lvs (treeN l) 0) : t.2.2 ≠ 0 := by
  intro h0
  cases hT : treeN l with
  | leaf c s =>
    have e := tree_lfs l (by omega : 0 < (leavesF l 0).length)
    rw [hT] at e
    have e2 := e.length_eq
    have e3 := congrArg List.length (leaves_zs l 0)
    simp only [List.length_map] at e3
    unfold Zs at e3
    rw [List.length_map] at e3 e2
    simp [lfs] at e2
    omega
  | join c g a b =>
    rw [hT, lvs] at ht
    rcases List.mem_append.1 ht with h | h
    · have := lvs_pos a _ _ h; omega
    · have := lvs_pos b _ _ h; omega
theorem more_short (l : List Int) (hl : ∀ c ∈ l, 0 ≤ c) (hok : okB 15 l = true) (i k : Nat) (a b x y : Int) (hi : l[i]? = some a) (hk : l[k]? = some b) (hab : b < a) (hb : 0 < b) (hx : (deepN l)[i]? = some x) (hy : (deepN l)[k]? = some y) : x ≤ y := by
  refine Int.not_lt.1 fun hlt => ?_
  have hik : i ≠ k := fun e => by subst e; rw [hi] at hk; have := Option.some.inj hk; omega
  have h2 := leaves_two l i k hik a b hi hk (by omega) hb
  have h15 := deepN_15 hok
  have hil := (List.getElem?_eq_some_iff.1 hx).1
  have hkl := (List.getElem?_eq_some_iff.1 hy).1
  have gx : (deepN l).getD i 0 = x := by rw [List.getD_eq_getElem?_getD, hx]; rfl
  have gy : (deepN l).getD k 0 = y := by rw [List.getD_eq_getElem?_getD, hy]; rfl
  have hpm := set_perm (deepN l) i k hil hkl
  rw [gx, gy] at hpm
  have hfull := full_deep l h2 (fun y hy => (h15 y hy).2)
  have hy00 := (h15 y (List.mem_of_getElem? hy)).1
  have hx0 : 0 < x := by omega
  have hy0 : 0 < y := by
    rcases deepN_at l h2 k b hk with ⟨h, _⟩ | ⟨_, d, hd, he⟩
    · omega
    · rw [hy] at he
      have hd0 : d ≠ 0 := deep_pos l h2 _ hd
      have := Option.some.inj he
      omega
  have hle := least l (((deepN l).set i y).set k x) hl h2 (fun z hz => h15 z (hpm.mem_iff.1 hz)) (by rw [kraS_perm hpm, hfull]; exact Nat.le_refl _) (fun j c hj hc => by
    have hjl : j < (deepN l).length := by rw [deepN_len]; exact (List.getElem?_eq_some_iff.1 hj).1
    rw [List.getD_eq_getElem?_getD]
    by_cases hjk : k = j
    · subst hjk
      rw [List.getElem?_set_self (by rw [List.length_set]; exact hjl)]
      exact hx0
    · rw [List.getElem?_set_ne hjk]
      by_cases hji : i = j
      · subst hji
        rw [List.getElem?_set_self hjl]
        exact hy0
      · rw [List.getElem?_set_ne hji]
        rcases deepN_at l h2 j c hj with ⟨h, _⟩ | ⟨_, d, hd, he⟩
        · omega
        · rw [he]
          have hd1 : d ≠ 0 := deep_pos l h2 _ hd
          simp only [Option.getD_some]
          omega)
  have hll : (deepN l).length = l.length := deepN_len l
  rw [dot_set ((deepN l).set i y) k x (by rw [List.length_set]; exact hkl) l 0 (Nat.zero_le _) (by omega), dot_set (deepN l) i y hil l 0 (Nat.zero_le _) (by omega)] at hle
  have g1 : ((deepN l).set i y).getD k 0 = y := by rw [List.getD_eq_getElem?_getD, List.getElem?_set_ne hik, hy]; rfl
  have ga : l.getD i 0 = a := by rw [List.getD_eq_getElem?_getD, hi]; rfl
  have gb : l.getD k 0 = b := by rw [List.getD_eq_getElem?_getD, hk]; rfl
  rw [g1, gx, Nat.sub_zero, Nat.sub_zero, ga, gb] at hle
  have hpos : 0 < (a - b) * (x - y) := Int.mul_pos (by omega) (by omega)
  rw [Int.sub_mul, Int.mul_sub, Int.mul_sub] at hpos
  rw [Int.mul_sub, Int.mul_sub] at hle
  omega
end Go.Proofs.YtnapnaaejignaaaGreat.Hu

/-! HwF: Plain: reading a code by counts is reading it by search; what is written is read. -/
namespace Go.Proofs.YtnapnaaejignaaaGreat.Hu

/-! ### symbols by length -/
theorem symF_spec (n : Nat) : ∀ (l : List Int) (i0 q s : Nat), (symF l i0 (n : Int))[q]? = some s ↔ i0 ≤ s ∧ l[s - i0]? = some (n : Int) ∧ cntI (l.take (s - i0)) n = q
  | [], i0, q, s => by simp [symF]
  | x :: l, i0, q, s => by
    have ih := fun q => symF_spec n l (i0 + 1) q s
    rw [symF]
    by_cases hx : x = (n : Int)
    · rw [if_pos hx]
      cases q with
      | zero =>
        rw [List.getElem?_cons_zero]
        constructor
        · intro h
          have := Option.some.inj h
          subst this
          exact ⟨Nat.le_refl _, by rw [Nat.sub_self, List.getElem?_cons_zero, hx], by rw [Nat.sub_self]; rfl⟩
        · rintro ⟨h1, h2, h3⟩
          by_cases hs : s = i0
          · rw [hs]
          · rw [show s - i0 = (s - (i0 + 1)) + 1 by omega, List.take_succ_cons] at h3
            unfold cntI at h3
            rw [List.countP_cons, decide_eq_true hx] at h3
            simp at h3
      | succ q =>
        rw [List.getElem?_cons_succ, ih q]
        constructor
        · rintro ⟨h1, h2, h3⟩
          refine ⟨by omega, by rw [show s - i0 = (s - (i0 + 1)) + 1 by omega, List.getElem?_cons_succ]; exact h2, ?_⟩
          rw [show s - i0 = (s - (i0 + 1)) + 1 by omega, List.take_succ_cons]
          unfold cntI at h3 ⊢
          rw [List.countP_cons, decide_eq_true hx, h3]
          rfl
        · rintro ⟨h1, h2, h3⟩
          by_cases hs : s = i0
          · subst hs
            rw [Nat.sub_self] at h3
            simp [cntI] at h3
          · rw [show s - i0 = (s - (i0 + 1)) + 1 by omega] at h2 h3
            rw [List.getElem?_cons_succ] at h2
            rw [List.take_succ_cons] at h3
            unfold cntI at h3 ⊢
            rw [List.countP_cons, decide_eq_true hx] at h3
            exact ⟨by omega, h2, by simpa using h3⟩
    · rw [if_neg hx, ih q]
      constructor
      · rintro ⟨h1, h2, h3⟩
        refine ⟨by omega, by rw [show s - i0 = (s - (i0 + 1)) + 1 by omega, List.getElem?_cons_succ]; exact h2, ?_⟩
        rw [show s - i0 = (s - (i0 + 1)) + 1 by omega, List.take_succ_cons]
        unfold cntI at h3 ⊢
        rw [List.countP_cons, decide_eq_false hx, h3]
        rfl
      · rintro ⟨h1, h2, h3⟩
        by_cases hs : s = i0
        · subst hs
          rw [Nat.sub_self, List.getElem?_cons_zero] at h2
          exact absurd (Option.some.inj h2) hx
        · rw [show s - i0 = (s - (i0 + 1)) + 1 by omega] at h2 h3
          rw [List.getElem?_cons_succ] at h2
          rw [List.take_succ_cons] at h3
          unfold cntI at h3 ⊢
          rw [List.countP_cons, decide_eq_false hx] at h3
          exact ⟨by omega, h2, by simpa using h3⟩
theorem symT_at (l : List Int) : ∀ (g k j q : Nat), 0 < k → j < g → q < cntI l (k + j) → (symT l k g)[sumF (cntF l) k j + q]? = (symF l 0 ((k + j : Nat) : Int))[q]?
  | 0, k, j, q, _, h, _ => by omega
  | g + 1, k, j, q, hk, hj, hq => by
    rw [symT]
    cases j with
    | zero =>
      rw [sumF, Nat.zero_add, Nat.add_zero] at *
      rw [List.getElem?_append_left (by rw [symF_cnt]; exact hq)]
      rfl
    | succ j =>
      have ih := symT_at l g (k + 1) j q (by omega) (by omega) (by rw [show k + 1 + j = k + (j + 1) by omega]; exact hq)
      rw [sumF]
      have e : (symF l 0 (k : Int)).length = cntF l k := by rw [symF_cnt]; unfold cntF; rw [if_neg (by omega)]
      rw [List.getElem?_append_right (by rw [e]; omega), e, show cntF l k + sumF (cntF l) (k + 1) j + q - cntF l k = sumF (cntF l) (k + 1) j + q by omega, ih, show k + 1 + j = k + (j + 1) by omega]
/-- the document's search: the first symbol of this length and code -/
def fndD (l : List Int) (n code : Nat) : Option Nat := (List.range l.length).find? fun i => decide (l.getD i 0 = (n : Int) ∧ (codesN l).getD i 0 = code)
theorem fnd_spec (l : List Int) (n q : Nat) (hn : 0 < n) : fndD l n (nxN (cntF l) n + q) = if q < cntF l n then (symF l 0 (n : Int))[q]? else none := by
  have hc : cntF l n = cntI l n := by unfold cntF; rw [if_neg (by omega)]
  have key : ∀ i, i < l.length → (l.getD i 0 = (n : Int) ∧ (codesN l).getD i 0 = nxN (cntF l) n + q ↔ (symF l 0 (n : Int))[q]? = some i) := fun i hi => by
    rw [symF_spec, Nat.sub_zero]
    have hg : l[i]? = some (l.getD i 0) := by rw [List.getD_eq_getElem?_getD, List.getElem?_eq_getElem hi]; rfl
    constructor
    · rintro ⟨h1, h2⟩
      rw [codesN_at l i hi, h1, if_pos (by omega), Int.toNat_natCast] at h2
      exact ⟨Nat.zero_le _, by rw [hg, h1], by omega⟩
    · rintro ⟨_, h1, h2⟩
      rw [hg] at h1
      have h1 := Option.some.inj h1
      exact ⟨h1, by rw [codesN_at l i hi, h1, if_pos (by omega), Int.toNat_natCast, h2]⟩
  by_cases hq : q < cntF l n
  · rw [if_pos hq]
    obtain ⟨s, hs⟩ : ∃ s, (symF l 0 (n : Int))[q]? = some s := ⟨_, List.getElem?_eq_getElem (by rw [symF_cnt]; omega)⟩
    have hsl : s < l.length := by
      have := (symF_spec n l 0 q s).1 hs
      rw [Nat.sub_zero] at this
      exact (List.getElem?_eq_some_iff.1 this.2.1).1
    rw [hs]
    unfold fndD
    cases hf : (List.range l.length).find? fun i => decide (l.getD i 0 = (n : Int) ∧ (codesN l).getD i 0 = nxN (cntF l) n + q) with
    | none =>
      have := List.find?_eq_none.1 hf s (List.mem_range.2 hsl)
      simp only [decide_eq_true_eq] at this
      exact absurd ((key s hsl).2 hs) this
    | some i =>
      have h1 := List.find?_some hf
      have h2 := List.mem_range.1 (List.mem_of_find?_eq_some hf)
      have h3 := (key i h2).1 (of_decide_eq_true h1)
      rw [hs] at h3
      exact h3.symm
  · rw [if_neg hq]
    unfold fndD
    rw [List.find?_eq_none]
    intro i hi h
    have hil := List.mem_range.1 hi
    have h1 := (key i hil).1 (of_decide_eq_true h)
    have := (List.getElem?_eq_some_iff.1 h1).1
    rw [symF_cnt] at this
    omega
theorem fnd_low (l : List Int) (n code : Nat) (hn : 0 < n) (h : code < nxN (cntF l) n) : fndD l n code = none := by
  unfold fndD
  rw [List.find?_eq_none]
  intro i hi hd
  have hil := List.mem_range.1 hi
  obtain ⟨h1, h2⟩ := of_decide_eq_true hd
  rw [codesN_at l i hil, h1, if_pos (by omega), Int.toNat_natCast] at h2
  omega
/-- the document's way of reading -/
def rdD (l : List Int) (bt : Nat → Nat) (N : Nat) : Nat → Nat → Nat → Nat → Nat × Int × Nat
  | 0, _, _, p => (0, 4, p)
  | g + 1, k, code, p => if p < N then (match fndD l k (2 * code + bt p) with
      | some s => (s, 0, p + 1)
      | none => rdD l bt N g (k + 1) (2 * code + bt p) (p + 1)) else (0, 8, p)
theorem rd_same (l : List Int) (bt : Nat → Nat) (N : Nat) : ∀ (g k d p : Nat), 0 < k → k + g = 16 → rdF (cntF l) (symsN l) bt N g k d (sumF (cntF l) 1 (k - 1)) p = rdD l bt N g k (nxN (cntF l) k / 2 + d) p
  | 0, k, d, p, _, _ => rfl
  | g + 1, k, d, p, hk, hg => by
    rw [rdF, rdD]
    by_cases hp : p < N
    · rw [if_pos hp, if_pos hp]
      have he : 2 * (nxN (cntF l) k / 2 + d) + bt p = nxN (cntF l) k + (2 * d + bt p) := by
        have : 2 * (nxN (cntF l) k / 2) = nxN (cntF l) k := by
          obtain ⟨j, rfl⟩ : ∃ j, k = j + 1 := ⟨k - 1, by omega⟩
          rw [nxN]; omega
        omega
      rw [he, fnd_spec l k _ hk]
      by_cases hq : 2 * d + bt p < cntF l k
      · rw [if_pos hq, if_pos hq]
        have hc : cntF l k = cntI l k := by unfold cntF; rw [if_neg (by omega)]
        have h1 := symT_at l 15 1 (k - 1) (2 * d + bt p) (by omega) (by omega) (by rw [show 1 + (k - 1) = k by omega]; omega)
        rw [show 1 + (k - 1) = k by omega] at h1
        obtain ⟨s, hs⟩ : ∃ s, (symF l 0 (k : Int))[2 * d + bt p]? = some s := ⟨_, List.getElem?_eq_getElem (by rw [symF_cnt]; omega)⟩
        rw [hs]
        unfold symsN
        rw [List.getD_eq_getElem?_getD, h1, hs]
        rfl
      · rw [if_neg hq, if_neg hq]
        have h2 := rd_same l bt N g (k + 1) (2 * d + bt p - cntF l k) (p + 1) (by omega) (by omega)
        have hs : sumF (cntF l) 1 (k + 1 - 1) = sumF (cntF l) 1 (k - 1) + cntF l k := by
          obtain ⟨j, rfl⟩ : ∃ j, k = j + 1 := ⟨k - 1, by omega⟩
          rw [Nat.add_sub_cancel, Nat.add_sub_cancel]
          have gen : ∀ (j a : Nat), sumF (cntF l) a (j + 1) = sumF (cntF l) a j + cntF l (a + j) := by
            intro j
            induction j with
            | zero => intro a; simp [sumF]
            | succ j ih => intro a; rw [sumF, ih (a + 1), sumF, show a + 1 + j = a + (j + 1) by omega]; omega
          rw [gen j 1, show 1 + j = j + 1 by omega]
        rw [hs] at h2
        rw [h2]
        have hn : nxN (cntF l) (k + 1) / 2 = nxN (cntF l) k + cntF l k := by rw [nxN]; omega
        rw [hn, show nxN (cntF l) k + cntF l k + (2 * d + bt p - cntF l k) = nxN (cntF l) k + (2 * d + bt p) by omega]
    · rw [if_neg hp, if_neg hp]
theorem read_doc (l : List Int) (bt : Nat → Nat) (N p : Nat) : readN l bt N p = rdD l bt N 15 1 0 p := by
  have h := rd_same l bt N 15 1 0 p (by omega) (by omega)
  have e : nxN (cntF l) 1 / 2 + 0 = 0 := by simp [nxN, cntF]
  rw [e] at h
  exact h
/-! ### what is written is read -/
theorem read_code (l : List Int) (bt : Nat → Nat) (N : Nat) (s n c p : Nat) (hs : l[s]? = some (n : Int)) (hn : 0 < n) (hn15 : n ≤ 15) (hc : (codesN l)[s]? = some c) (hN : p + n ≤ N) (hk : kra l ≤ 32768) (hb : ∀ j, j < n → bt (p + j) = c / 2 ^ (n - 1 - j) % 2) :
    readN l bt N p = (s, 0, p + n) := by
  rw [read_doc]
  have hcn := codesN_get l s n hs (by omega)
  rw [hc, Int.toNat_natCast] at hcn
  have hcn := Option.some.inj hcn
  have hlt := cnt_lt l s n hs (by omega)
  rw [Int.toNat_natCast] at hlt
  have htop : c / 2 ^ n = 0 := by
    have h1 : c < 2 ^ n := by
      have := nxN_le (cntF l) hk n hn15
      omega
    exact Nat.div_eq_of_lt h1
  have step : ∀ (j : Nat), j < n → ∀ g, g + 1 + j = 15 → rdD l bt N (g + 1) (j + 1) (c / 2 ^ (n - j)) (p + j) = if j + 1 = n then (s, 0, p + n) else rdD l bt N g (j + 2) (c / 2 ^ (n - (j + 1))) (p + (j + 1)) := by
    intro j hj g hg
    rw [rdD, if_pos (by omega), hb j hj]
    have e : 2 * (c / 2 ^ (n - j)) + c / 2 ^ (n - 1 - j) % 2 = c / 2 ^ (n - (j + 1)) := by
      have e1 : n - j = (n - (j + 1)) + 1 := by omega
      have e2 : n - 1 - j = n - (j + 1) := by omega
      rw [e1, e2, Nat.pow_succ, ← Nat.div_div_eq_div_mul]
      omega
    rw [e]
    by_cases hjn : j + 1 = n
    · rw [if_pos hjn]
      subst hjn
      rw [Nat.sub_self, Nat.pow_zero, Nat.div_one, hcn, fnd_spec l (j + 1) _ (by omega), if_pos hlt]
      have : (symF l 0 ((j + 1 : Nat) : Int))[cntI (l.take s) (j + 1)]? = some s := (symF_spec (j + 1) l 0 _ s).2 ⟨Nat.zero_le _, by rw [Nat.sub_zero]; exact hs, by rw [Nat.sub_zero]⟩
      rw [this]
      rfl
    · rw [if_neg hjn]
      have hfar := nxN_far (cntF l) (j + 1) (n - (j + 1) - 1)
      rw [show j + 1 + 1 + (n - (j + 1) - 1) = n by omega] at hfar
      have hge : nxN (cntF l) (j + 1) + cntF l (j + 1) ≤ c / 2 ^ (n - (j + 1)) := by
        rw [Nat.le_div_iff_mul_le (Nat.pow_pos (by omega))]
        have e3 : 2 ^ (n - (j + 1) - 1) * (2 * (nxN (cntF l) (j + 1) + cntF l (j + 1))) = (nxN (cntF l) (j + 1) + cntF l (j + 1)) * 2 ^ (n - (j + 1)) := by
          rw [show n - (j + 1) = (n - (j + 1) - 1) + 1 by omega, Nat.pow_succ, Nat.add_sub_cancel, ← Nat.mul_assoc, Nat.mul_comm]
        rw [e3] at hfar
        omega
      obtain ⟨q, hq⟩ : ∃ q, c / 2 ^ (n - (j + 1)) = nxN (cntF l) (j + 1) + q := ⟨c / 2 ^ (n - (j + 1)) - nxN (cntF l) (j + 1), by omega⟩
      rw [hq, fnd_spec l (j + 1) q (by omega), if_neg (by omega)]
      rw [show p + j + 1 = p + (j + 1) by omega]
  have run : ∀ (m j g : Nat), m + j = n → 0 < m → g + j = 15 → rdD l bt N g (j + 1) (c / 2 ^ (n - j)) (p + j) = (s, 0, p + n) := by
    intro m
    induction m with
    | zero => intro j g _ h _; omega
    | succ m ih =>
      intro j g hmj _ hg
      obtain ⟨g', rfl⟩ : ∃ g', g = g' + 1 := ⟨g - 1, by omega⟩
      rw [step j (by omega) g' (by omega)]
      by_cases hjn : j + 1 = n
      · rw [if_pos hjn]
      · rw [if_neg hjn]
        exact ih (j + 1) g' (by omega) (by omega) (by omega)
  have := run n 0 15 (by omega) hn (by omega)
  rw [Nat.sub_zero, htop] at this
  exact this
end Go.Proofs.YtnapnaaejignaaaGreat.Hu

/-! HwG: The document's Table (chapter 7): New, Size, Write, Read walked. -/
namespace Go.Proofs.YtnapnaaejignaaaGreat.Hu
open Go.RowKit Bt

section
variable {w0 w : World} {L : List Ob}
end
theorem fnd_here (l : List Int) (n code i : Nat) (hi : i < l.length) (h1 : ∀ j, j < i → ¬ (l.getD j 0 = (n : Int) ∧ (codesN l).getD j 0 = code)) (h2 : l.getD i 0 = (n : Int) ∧ (codesN l).getD i 0 = code) : fndD l n code = some i := by
  unfold fndD
  rw [List.find?_range_eq_some]
  exact ⟨decide_eq_true h2, List.mem_range.2 hi, fun j hj => by rw [decide_eq_false (h1 j hj)]; rfl⟩
theorem fnd_not (l : List Int) (n code : Nat) (h1 : ∀ j, j < l.length → ¬ (l.getD j 0 = (n : Int) ∧ (codesN l).getD j 0 = code)) : fndD l n code = none := by
  unfold fndD
  rw [List.find?_eq_none]
  intro j hj h
  exact h1 j (List.mem_range.1 hj) (of_decide_eq_true h)
end Go.Proofs.YtnapnaaejignaaaGreat.Hu

/-! HwH: The statement HuffTable walked. -/
namespace Go.Proofs.YtnapnaaejignaaaGreat.Hu
open Go.RowKit Bt

theorem codes_16 (l : List Int) (hb : badL l = false) (hk : kra l ≤ 32768) : ∀ x ∈ codesN l, x < 65536 := fun x hx => by
  obtain ⟨i, hi⟩ := List.getElem?_of_mem hx
  have hil : i < l.length := by have := (List.getElem?_eq_some_iff.1 hi).1; rw [codesN, codesF_len] at this; exact this
  by_cases h0 : 0 < l[i]
  · have h1 := codesN_get l i _ (List.getElem?_eq_getElem hil) h0
    rw [hi] at h1
    have h2 := Option.some.inj h1
    have h3 := cnt_lt l i _ (List.getElem?_eq_getElem hil) h0
    have h5 := (bad_false hb).2 _ (List.getElem_mem hil)
    have h4 := nxN_le (cntF l) hk (l[i]).toNat (by omega)
    have h6 : 2 ^ (l[i]).toNat ≤ 2 ^ 15 := Nat.pow_le_pow_right (by omega) (by omega)
    omega
  · have h1 := codesN_at l i hil
    have hg : l.getD i 0 = l[i] := by rw [List.getD_eq_getElem?_getD, List.getElem?_eq_getElem hil]; rfl
    rw [hg, if_neg h0, List.getD_eq_getElem?_getD, hi] at h1
    simp at h1
    omega
theorem cbits_bin (c : Nat) : ∀ n, Bin (cbits c n)
  | 0 => fun x hx => by cases hx
  | n + 1 => fun x hx => by
    rw [cbits] at hx
    rcases List.mem_cons.1 hx with rfl | hx
    · omega
    · exact cbits_bin c n x hx
theorem sizeZ_15 (l : List Int) (h : ∀ x ∈ l, 0 ≤ x ∧ x ≤ 15) (s : Int) : 0 ≤ sizeZ l s ∧ sizeZ l s ≤ 15 := by
  unfold sizeZ
  split
  · omega
  · rw [List.getD_eq_getElem?_getD]
    cases hx : l[s.toNat]? with
    | none => simp
    | some x => exact h x (List.mem_of_getElem? hx)
theorem Bin.append9 {a b : List Nat} (h : Bin a) (h' : Bin b) : Bin (a ++ b) := fun x hx => by
  rcases List.mem_append.1 hx with hx | hx
  · exact h x hx
  · exact h' x hx
theorem rdD_pos (l : List Int) (bt : Nat → Nat) (N : Nat) : ∀ g k code p, p ≤ N → p ≤ (rdD l bt N g k code p).2.2 ∧ (rdD l bt N g k code p).2.2 ≤ N
  | 0, k, code, p, h => ⟨Nat.le_refl _, h⟩
  | g + 1, k, code, p, h => by
    rw [rdD]
    by_cases hp : p < N
    · rw [if_pos hp]
      split
      · exact ⟨Nat.le_succ p, hp⟩
      · have := rdD_pos l bt N g (k + 1) (2 * code + bt p) (p + 1) (by omega)
        exact ⟨by omega, this.2⟩
    · rw [if_neg hp]
      exact ⟨Nat.le_refl _, h⟩
end Go.Proofs.YtnapnaaejignaaaGreat.Hu

/-! HwI: Plain: counts of symbols, their lengths, the bits that are written and where they are read. -/
namespace Go.Proofs.YtnapnaaejignaaaGreat.Hu
open Bt

/-! ### counts -/
def fq (L : List Nat) : List Int := (List.range 288).map fun i => ((L.count i : Nat) : Int)
theorem fq_len (L : List Nat) : (fq L).length = 288 := by simp [fq]
theorem fq_at (L : List Nat) (i : Nat) (h : i < 288) : (fq L)[i]? = some ((L.count i : Nat) : Int) := by
  unfold fq
  rw [List.getElem?_map, List.getElem?_range h]
  rfl
theorem fq_nil : fq [] = zers 288 := by
  apply List.ext_getElem?
  intro i
  by_cases h : i < 288
  · rw [fq_at _ _ h, zers, List.getElem?_replicate, if_pos h]; rfl
  · rw [List.getElem?_eq_none (by rw [fq_len]; omega), List.getElem?_eq_none (by rw [zers_len]; omega)]
theorem fq_snoc (L : List Nat) (s : Nat) : (fq L).set s (((L.count s : Nat) : Int) + 1) = fq (L ++ [s]) := by
  apply List.ext_getElem?
  intro i
  by_cases h : i < 288
  · rw [fq_at _ _ h, List.count_append, List.getElem?_set]
    by_cases hsi : s = i
    · subst hsi
      rw [if_pos rfl, if_pos (by rw [fq_len]; exact h)]
      simp
    · rw [if_neg hsi, fq_at _ _ h, List.count_singleton]
      have : (s == i) = false := beq_eq_false_iff_ne.2 hsi
      rw [this]
      simp
  · rw [List.getElem?_eq_none (by rw [List.length_set, fq_len]; omega), List.getElem?_eq_none (by rw [fq_len]; omega)]
theorem fq_rng (L : List Nat) : ∀ c ∈ fq L, 0 ≤ c ∧ c ≤ L.length := fun c hc => by
  obtain ⟨i, _, rfl⟩ := List.mem_map.1 hc
  have := List.count_le_length (a := i) (l := L)
  omega
theorem fq_err (L : List Nat) (hl : L.length ≤ 300) (m : Int) (h1 : 9 ≤ m) (h2 : m ≤ 15) : lensErr (fq L) m = false := by
  unfold lensErr
  rw [Bool.or_eq_false_iff, List.any_eq_false]
  refine ⟨fun x hx => ?_, decide_eq_false ?_⟩
  · have := fq_rng L x hx
    simp
    omega
  · have h3 := someN_le (fq L)
    rw [fq_len] at h3 ⊢
    have h4 : 2 ^ 9 ≤ 2 ^ m.toNat := Nat.pow_le_pow_right (by omega) (by omega)
    omega
/-! ### their lengths -/
theorem lensF_shape (m : Int) : ∀ (K : Nat) (f : List Int), (∀ c ∈ f, 0 ≤ c) → fitB K m f = true →
    ∃ f' : List Int, f'.length = f.length ∧ (∀ i : Nat, 0 < f.getD i 0 ↔ 0 < f'.getD i 0) ∧ (∀ c ∈ f', 0 ≤ c) ∧ someN f' = someN f ∧ lensF K m f = deepN f' ∧ okB m f' = true
  | 0, f, h, hf => ⟨f, rfl, fun _ => Iff.rfl, h, rfl, rfl, hf⟩
  | K + 1, f, h, hf => by
    rw [lensF]
    by_cases ho : okB m f = true
    · rw [if_pos ho]
      exact ⟨f, rfl, fun _ => Iff.rfl, h, rfl, rfl, ho⟩
    · rw [if_neg ho]
      have ho2 : okB m f = false := by simpa using ho
      rw [fitB, ho2, Bool.false_or] at hf
      obtain ⟨f', h1, h2, h3, h5, h4⟩ := lensF_shape m K (halfL f) (fun c hc => by
        obtain ⟨x, hx, rfl⟩ := List.mem_map.1 hc
        have := h x hx
        omega) hf
      refine ⟨f', by rw [h1]; simp [halfL], fun i => ?_, h3, by rw [h5, some_half f h], h4⟩
      rw [← h2]
      unfold halfL
      rw [List.getD_eq_getElem?_getD, List.getD_eq_getElem?_getD, List.getElem?_map]
      cases hx : f[i]? with
      | none => simp
      | some x =>
        have := h x (List.mem_of_getElem? hx)
        simp
        omega
theorem deepN_pos (f : List Int) (i : Nat) (hi : i < f.length) : 0 < (deepN f).getD i 0 ↔ 0 < f.getD i 0 := by
  have hg : f[i]? = some (f.getD i 0) := by rw [List.getD_eq_getElem?_getD, List.getElem?_eq_getElem hi]; rfl
  by_cases hk : 2 ≤ (leavesF f 0).length
  · rcases deepN_at f hk i _ hg with ⟨h1, h2⟩ | ⟨h1, d, h2, h3⟩
    · have e1 : (deepN f).getD i 0 = 0 := by rw [List.getD_eq_getElem?_getD, h2]; rfl
      rw [e1]
      omega
    · have e1 : (deepN f).getD i 0 = (d : Int) := by rw [List.getD_eq_getElem?_getD, h3]; rfl
      rw [e1]
      have := deep_pos f hk _ h2
      simp only at this
      omega
  · match hleaf : leavesF f 0, hk with
    | [], _ =>
      have hz := leaves_some f 0
      rw [hleaf] at hz
      rw [deepN_more (by rw [hleaf]; simp), hleaf]
      show 0 < (zers f.length).getD i 0 ↔ _
      have h1 : ¬ 0 < f.getD i 0 := fun h => by
        have : 0 < someN f := List.countP_pos_iff.2 ⟨f.getD i 0, List.mem_of_getElem? hg, by simpa using h⟩
        simp at hz
        omega
      rw [List.getD_eq_getElem?_getD, zers, List.getElem?_replicate, if_pos hi]
      simp only [Option.getD_some]
      omega
    | [x], _ =>
      obtain ⟨c, s, rfl, _, hsl, hc, hs⟩ := leavesF_mem f 0 x (by rw [hleaf]; simp)
      rw [Nat.sub_zero] at hs
      rw [Nat.zero_add] at hsl
      rw [deepN_one hleaf]
      show 0 < ((zers f.length).set s 1).getD i 0 ↔ _
      by_cases hsi : s = i
      · subst hsi
        rw [List.getD_eq_getElem?_getD, List.getElem?_set_self (by rw [zers_len]; exact hi)]
        rw [hg] at hs
        have := Option.some.inj hs
        simp only [Option.getD_some]
        omega
      · rw [List.getD_eq_getElem?_getD, List.getElem?_set_ne hsi, zers, List.getElem?_replicate, if_pos hi]
        simp only [Option.getD_some]
        have h1 : ¬ 0 < f.getD i 0 := fun h => by
          have hz := leaves_zs f 0
          have hZ : Zs f 0 = [(c, s)] := by
            have h3 := leavesF_lfs f 0
            rw [hleaf] at h3
            simpa [lfsL, lfs, Zs] using h3.symm
          have m1 : (f.getD i 0, i) ∈ Zs f 0 := (zip_pos f 0 _ i).2 ⟨Nat.zero_le _, by rw [Nat.sub_zero]; exact hg, h⟩
          rw [hZ, List.mem_singleton] at m1
          exact hsi (congrArg Prod.snd m1).symm
        omega
    | _ :: _ :: _, hk => simp at hk
theorem deepN_kra (f : List Int) (h15 : ∀ y ∈ deepN f, y ≤ 15) : kraS (deepN f) ≤ 32768 ∧ (2 ≤ someN f → kraS (deepN f) = 32768) := by
  have hz := leaves_some f 0
  by_cases hk : 2 ≤ (leavesF f 0).length
  · have := full_deep f hk h15
    exact ⟨by omega, fun _ => this⟩
  · refine ⟨?_, fun h => by omega⟩
    match hleaf : leavesF f 0, hk with
    | [], _ =>
      rw [deepN_more (by rw [hleaf]; simp), hleaf]
      have : kraS (topD f.length []) = 0 := kra_zeros _ (fun x hx => List.eq_of_mem_replicate hx)
      show kraS (topD f.length []) ≤ _
      omega
    | [x], _ =>
      rw [deepN_one hleaf]
      have gen : ∀ (n s : Nat), kraS ((zers n).set s 1) ≤ 16384 := by
        intro n
        induction n with
        | zero => intro s; simp [zers, kraS]
        | succ n ih =>
          intro s
          have e : zers (n + 1) = 0 :: zers n := by simp [zers, List.replicate_succ]
          rw [e]
          cases s with
          | zero =>
            rw [List.set_cons_zero, kraS, kra_zeros (zers n) (fun x hx => List.eq_of_mem_replicate hx)]
            decide
          | succ s =>
            rw [List.set_cons_succ, kraS]
            have := ih s
            simp
            exact this
      exact Nat.le_trans (gen _ _) (by omega)
    | _ :: _ :: _, hk => simp at hk
structure Lengths (f D : List Int) (m : Int) : Prop where
  len : D.length = f.length
  rng : ∀ y ∈ D, 0 ≤ y ∧ y ≤ m
  pos : ∀ i, i < f.length → (0 < D.getD i 0 ↔ 0 < f.getD i 0)
  kra : Hu.kra D ≤ 32768
  full : 2 ≤ someN f → Hu.kra D = 32768
  bad : badL D = false
theorem lengths_of (f : List Int) (m : Int) (hm : m ≤ 15) (hl : f.length ≤ 288) (h : ∀ c ∈ f, 0 ≤ c) (hf : fitB 40 m f = true) : Lengths f (lensF 40 m f) m := by
  obtain ⟨f', h1, h2, h3, h4, h5, h6⟩ := lensF_shape m 40 f h hf
  rw [h5]
  have hr : ∀ y ∈ deepN f', 0 ≤ y ∧ y ≤ m := fun y hy => by
    refine ⟨deepN_nn f' y hy, ?_⟩
    rw [okB_all] at h6
    exact of_decide_eq_true (List.all_eq_true.1 h6 y hy)
  have hk := deepN_kra f' (fun y hy => Int.le_trans (hr y hy).2 hm)
  have he : Hu.kra (deepN f') = kraS (deepN f') := kra_sum _ (fun y hy => ⟨(hr y hy).1, Int.le_trans (hr y hy).2 hm⟩)
  refine ⟨by rw [deepN_len, h1], hr, fun i hi => by rw [deepN_pos f' i (by omega), h2], by rw [he]; exact hk.1, fun h => by rw [he]; exact hk.2 (by omega), ?_⟩
  unfold badL
  rw [Bool.or_eq_false_iff, List.any_eq_false]
  refine ⟨decide_eq_false (by rw [deepN_len]; omega), fun x hx => ?_⟩
  have := hr x hx
  simp
  omega
theorem Lengths.codes {f D : List Int} {m : Int} (h : Lengths f D m) : codesE D = 0 := by
  unfold codesE
  rw [h.bad, if_neg (by simp), if_neg (by have := h.kra; omega)]
theorem Lengths.state {f D : List Int} {m : Int} (h : Lengths f D m) : (stateN D).2 = 0 ∧ (2 ≤ someN f → (stateN D).1 = 0) := by
  unfold stateN
  rw [h.bad]
  refine ⟨rfl, fun h2 => ?_⟩
  rw [h.full h2]
  rfl
/-! ### the bits -/
def cdB (D : List Int) (s : Nat) : List Nat := cbits ((codesN D).getD s 0) (D.getD s 0).toNat
def allB (D : List Int) (L : List Nat) : List Nat := L.flatMap (cdB D)
theorem cdB_len (D : List Int) (s : Nat) : (cdB D s).length = (D.getD s 0).toNat := cbits_len _ _
theorem allB_snoc (D : List Int) (L : List Nat) (s : Nat) : allB D (L ++ [s]) = allB D L ++ cdB D s := by simp [allB]
theorem allB_bin (D : List Int) (L : List Nat) : Bin (allB D L) := fun x hx => by
  obtain ⟨s, _, h⟩ := List.mem_flatMap.1 hx
  exact cbits_bin _ _ x h
theorem dot_set_left (O : List Int) (i : Nat) (v : Int) : ∀ (l : List Int) (k : Nat), i < l.length → dot (l.set i v) O k = dot l O k + (v - l.getD i 0) * O.getD (k + i) 0
  | [], _, h => by simp at h
  | c :: l, k, h => by
    cases i with
    | zero =>
      rw [List.set_cons_zero, dot, dot]
      show _ = _ + (v - c) * O.getD (k + 0) 0
      simp only [Int.sub_mul, Nat.add_zero]
      omega
    | succ i =>
      rw [List.set_cons_succ, dot, dot, dot_set_left O i v l (k + 1) (by simpa using h), show k + 1 + i = k + (i + 1) by omega, List.getD_cons_succ]
      omega
theorem dot_zeros (O : List Int) : ∀ (n k : Nat), dot (zers n) O k = 0
  | 0, _ => rfl
  | n + 1, k => by
    have e : zers (n + 1) = 0 :: zers n := by simp [zers, List.replicate_succ]
    rw [e, dot, dot_zeros O n, Int.zero_mul]
    rfl
theorem allB_dot (D : List Int) (hD : ∀ y ∈ D, 0 ≤ y) : ∀ (n : Nat) (L : List Nat), L.length = n → (∀ s ∈ L, s < 288) → (((allB D L).length : Nat) : Int) = dot (fq L) D 0
  | 0, [], _, _ => by rw [fq_nil, dot_zeros]; rfl
  | n + 1, L, hn, h => by
    obtain ⟨M, s, rfl⟩ : ∃ M s, L = M ++ [s] := by
      have hne : L ≠ [] := fun e => by rw [e] at hn; simp at hn
      exact ⟨L.dropLast, L.getLast hne, (List.dropLast_concat_getLast hne).symm⟩
    have hs := h s (by simp)
    have ih := allB_dot D hD n M (by simpa using hn) (fun t ht => h t (by simp [ht]))
    rw [allB_snoc, List.length_append, cdB_len, ← fq_snoc M s, dot_set_left D s _ (fq M) 0 (by rw [fq_len]; exact hs), Nat.zero_add, ← ih]
    have hg : (fq M).getD s 0 = ((M.count s : Nat) : Int) := by rw [List.getD_eq_getElem?_getD, fq_at M s hs]; rfl
    have h0 : 0 ≤ D.getD s 0 := by
      rw [List.getD_eq_getElem?_getD]
      cases hk : D[s]? with
      | none => simp
      | some y => simpa using hD y (List.mem_of_getElem? hk)
    rw [hg]
    push_cast
    rw [Int.toNat_of_nonneg h0]
    have : (((M.count s : Nat) : Int) + 1 - ((M.count s : Nat) : Int)) * D.getD s 0 = D.getD s 0 := by
      rw [show (((M.count s : Nat) : Int) + 1 - ((M.count s : Nat) : Int)) = 1 by omega, Int.one_mul]
    omega
theorem cbits_at (c : Nat) : ∀ (n j : Nat), j < n → (cbits c n)[j]? = some (c / 2 ^ (n - 1 - j) % 2)
  | 0, j, h => by omega
  | n + 1, 0, _ => by rw [cbits, List.getElem?_cons_zero, Nat.add_sub_cancel, Nat.sub_zero]
  | n + 1, j + 1, h => by rw [cbits, List.getElem?_cons_succ, cbits_at c n j (by omega), show n + 1 - 1 - (j + 1) = n - 1 - j by omega]
/-- at each symbol's place it is read -/
theorem back_read (D : List Int) (hb : badL D = false) (hk : kra D ≤ 32768) (L : List Nat) (i s : Nat) (hs : L[i]? = some s) (hsD : 0 < D.getD s 0) :
    readN D (bit (txt (packB false (allB D L))) false) (8 * (txt (packB false (allB D L))).size) (allB D (L.take i)).length = (s, 0, (allB D (L.take (i + 1))).length) := by
  have hsl : s < D.length := by
    refine Nat.lt_of_not_le fun h => ?_
    rw [List.getD_eq_getElem?_getD, List.getElem?_eq_none h] at hsD
    simp at hsD
  obtain ⟨n, hn⟩ : ∃ n : Nat, D.getD s 0 = n := ⟨(D.getD s 0).toNat, by omega⟩
  have hDs : D[s]? = some (n : Int) := by rw [← hn, List.getD_eq_getElem?_getD, List.getElem?_eq_getElem hsl]; rfl
  have hn15 := (bad_false hb).2 _ (List.mem_of_getElem? hDs)
  obtain ⟨c, hc⟩ : ∃ c, (codesN D)[s]? = some c := ⟨_, List.getElem?_eq_getElem (by rw [codesN, codesF_len]; exact hsl)⟩
  have hcg : (codesN D).getD s 0 = c := by rw [List.getD_eq_getElem?_getD, hc]; rfl
  have hil := (List.getElem?_eq_some_iff.1 hs).1
  have hsplit : allB D L = allB D (L.take i) ++ (cbits c n ++ allB D (L.drop (i + 1))) := by
    have e : L = L.take i ++ s :: L.drop (i + 1) := by
      have := (List.getElem?_eq_some_iff.1 hs).2
      rw [← this, List.getElem_cons_drop hil, List.take_append_drop]
    have e2 : cdB D s = cbits c n := by unfold cdB; rw [hcg, hn, Int.toNat_natCast]
    exact calc allB D L = allB D (L.take i ++ s :: L.drop (i + 1)) := by rw [← e]
      _ = allB D (L.take i) ++ (cbits c n ++ allB D (L.drop (i + 1))) := by rw [← e2]; simp [allB]
  have htk : allB D (L.take (i + 1)) = allB D (L.take i) ++ cbits c n := by
    rw [List.take_add_one, hs, Option.toList_some, allB_snoc]
    unfold cdB
    rw [hcg, hn, Int.toNat_natCast]
  have hlen : (allB D (L.take i)).length + n ≤ (allB D L).length := by rw [hsplit, List.length_append, List.length_append, cbits_len]; omega
  have hsz : (txt (packB false (allB D L))).size = ((allB D L).length + 7) / 8 := by rw [txt_size, packB_length]
  have h1 := read_code D (bit (txt (packB false (allB D L))) false) (8 * (txt (packB false (allB D L))).size) s n c (allB D (L.take i)).length hDs (by omega) (by omega) hc (by rw [hsz]; omega) hk (fun j hj => by
    rw [bit_txt false (allB D L) (allB_bin D L) _ (by omega), hsplit, List.getD_eq_getElem?_getD, List.getElem?_append_right (by omega), List.getElem?_append_left (by rw [cbits_len]; omega), show (allB D (L.take i)).length + j - (allB D (L.take i)).length = j by omega, cbits_at c n j hj]
    rfl)
  rw [h1, htk, List.length_append, cbits_len]
end Go.Proofs.YtnapnaaejignaaaGreat.Hu
